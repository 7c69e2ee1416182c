/- The reader of package script: what its methods return, and what becomes of its one field. Conditions: none beyond the shape of memory. -/
import Derived.Test.YtahfcdlggaoakaaDoorPScriptDecodesx2
namespace Go.Proofs.YtahfcdlggaoakaaDoor.Rd
open Go.RowKit Go.Proofs.YtahfcdlggaoakaaDoorW.PrintWords Go.Proofs.YtahfcdlggaoakaaDoorW.PrintLast Go.Proofs.YtahfcdlggaoakaaDoorW.PrintMore
open Go.Proofs.YtahfcdlggaoakaaDoor.PScriptDecodes

/-- The reader at block g stands before the bytes xs; the bytes lie below block B. -/
def Rd (w : World) (B g : Nat) (xs : List Int) : Prop :=
  ∃ A c, w.heap[g]? = some (.cells #[.slice A xs.length c] 45 (0, 0)) ∧ xs.length ≤ c ∧ c ≤ 9223372036854775807 ∧ ReadsInt w .u8 A xs.length xs ∧ B ≤ g ∧
    (0 < xs.length → ∀ ad, A = some ad → ad.block < B) ∧ (∀ x ∈ xs, 0 ≤ x ∧ x ≤ 255)

theorem reads_move {w w1 : World} {k : IntKind} {A : Option Addr} {n : Nat} {xs : List Int} (h : ReadsInt w k A n xs) {B : Nat} (hA : 0 < n → ∀ ad, A = some ad → ad.block < B) (hb : ∀ i, i < B → w1.heap[i]? = w.heap[i]?) : ReadsInt w1 k A n xs := by
  refine ⟨h.1, h.2.1, fun hn => ?_⟩
  obtain ⟨ad, e, hc⟩ := h.2.2 hn
  refine ⟨ad, e, fun j hj => ?_⟩
  rw [← hc j hj]
  refine World.cell?_of_block (hb _ ?_)
  have := hA hn ad e
  unfold Addr.add
  split <;> simpa using this

/-- What leaves the reader's block and all below B as they were leaves the reader. -/
theorem Rd.move {w w1 : World} {B g : Nat} {xs : List Int} (h : Rd w B g xs) (hg : w1.heap[g]? = w.heap[g]?) (hb : ∀ i, i < B → w1.heap[i]? = w.heap[i]?) : Rd w1 B g xs := by
  obtain ⟨A, c, hk, hc, hm, hr, hB, hA, hx⟩ := h
  exact ⟨A, c, hg.trans hk, hc, hm, reads_move hr hA hb, hB, hA, hx⟩
theorem Rd.lt {w : World} {B g : Nat} {xs : List Int} (h : Rd w B g xs) : g < w.heap.size := by
  obtain ⟨A, c, hk, _⟩ := h
  exact blk_lt hk
theorem Rd.ge {w : World} {B g : Nat} {xs : List Int} (h : Rd w B g xs) : B ≤ g := by
  obtain ⟨A, c, _, _, _, _, hB, _⟩ := h
  exact hB
theorem Rd.grown {w w1 : World} {B g : Nat} {xs : List Int} (h : Rd w B g xs) {row : Option Nat} (hw : w.grownBy w1 row) (h1 : some g ≠ row) (h2 : ∀ k, row = some k → B ≤ k) : Rd w1 B g xs :=
  h.move (hw.block g h.lt h1) (fun i hi => hw.block i (by have := h.lt; have := h.ge; omega) (fun e => by have := h2 i e.symm; omega))
theorem Rd.below {w w1 : World} {B g : Nat} {xs : List Int} (h : Rd w B g xs) (hw : Below w.heap.size w w1) : Rd w1 B g xs :=
  h.move (hw.block g h.lt) (fun i hi => hw.block i (by have := h.lt; have := h.ge; omega))
theorem Rd.byte {w : World} {B g : Nat} {xs : List Int} (h : Rd w B g xs) : ∀ x ∈ xs, 0 ≤ x ∧ x ≤ 255 := by
  obtain ⟨A, c, _, _, _, _, _, _, hx⟩ := h
  exact hx

/-- The reader's cell set to a later stretch of the same bytes. -/
theorem Rd.step {w : World} {B g : Nat} {xs : List Int} {A : Option Addr} {c m : Nat} (hk : w.heap[g]? = some (.cells #[.slice A xs.length c] 45 (0, 0))) (hc : xs.length ≤ c) (hm : c ≤ 9223372036854775807) (hr : ReadsInt w .u8 A xs.length xs) (hB : B ≤ g)
    (hA : 0 < xs.length → ∀ ad, A = some ad → ad.block < B) (hx : ∀ x ∈ xs, 0 ≤ x ∧ x ≤ 255) (hml : m ≤ xs.length) (A' : Option Addr) (hA' : A' = if c = m then A else A.map (·.add m)) :
    Rd (w.setCell ⟨g, 0, none⟩ (.slice A' (xs.length - m) (c - m))) B g (xs.drop m) ∧ w.grownBy (w.setCell ⟨g, 0, none⟩ (.slice A' (xs.length - m) (c - m))) (some g) := by
  have hd := hr.drop_ m hml hc
  rw [← hA'] at hd
  have hl : (xs.drop m).length = xs.length - m := List.length_drop
  constructor
  · refine ⟨A', c - m, ?_, by omega, by omega, ?_, hB, ?_, fun x hx' => hx x (List.mem_of_mem_drop hx')⟩
    · rw [hl]; exact blk_set hk 0 _
    · rw [hl]
      refine reads_move (w := w) hd (B := B) ?_ (fun i hi => Below.heap_setCell _ _ _ _ (by simp; omega))
      intro hp ad e
      cases hq : A with
      | none => rw [hq] at hA'; simp at hA'; rw [hA'] at e; cases e
      | some a0 =>
        have h0 := hA (by omega) a0 hq
        rw [hA', hq] at e
        split at e
        · cases e; exact h0
        · simp only [Option.map_some, Option.some.injEq] at e
          subst e
          unfold Addr.add
          split <;> simpa using h0
    · intro hp ad e
      cases hq : A with
      | none => rw [hq] at hA'; simp at hA'; rw [hA'] at e; cases e
      | some a0 =>
        have h0 := hA (by omega) a0 hq
        rw [hA', hq] at e
        split at e
        · cases e; exact h0
        · simp only [Option.map_some, Option.some.injEq] at e
          subst e
          unfold Addr.add
          split <;> simpa using h0
  · exact ⟨rfl, rfl, rfl, by simp [World.setCell], fun k _ hne => Below.heap_setCell _ _ _ _ (fun e => hne (by rw [e]))⟩

theorem grown_refl (w : World) (row : Option Nat) : w.grownBy w row := ⟨rfl, rfl, rfl, Nat.le_refl _, fun _ _ _ => rfl⟩
theorem grown_trans {a b c : World} {row : Option Nat} (h : a.grownBy b row) (k : b.grownBy c row) : a.grownBy c row :=
  ⟨k.os.trans h.os, k.tape.trans h.tape, k.output.trans h.output, Nat.le_trans h.size k.size, fun i hi hr => (k.block i (Nat.lt_of_lt_of_le hi h.size) hr).trans (h.block i hi hr)⟩

/-- The first byte, nought behind the last one; what is left. -/
def hd (xs : List Int) : Int := xs.headD 0
def tl (xs : List Int) : List Int := xs.tail
def BytePost (w : World) (B g : Nat) (xs : List Int) (e : Ending) (w' : World) : Prop := e = .returned (.int .i64 (hd xs)) ∧ Rd w' B g (tl xs) ∧ w.grownBy w' (some g)

theorem byte_nil (g : Nat) (A : Option Addr) (c : Nat) (w : World) (hb : w.heap[g]? = some (.cells #[.slice A 0 c] 45 (0, 0))) :
    Calls Tryd.prog 32 #[.pointer (some ⟨g, 0, none⟩)] w fun e w' => e = .returned (.int .i64 0) ∧ w' = w := by
  have c0 : w.cell? ⟨g, 0, none⟩ = some (.slice A 0 c) := blk_cell hb 0
  go_enter Tryd.func32, Tryd.ntmps32
  go_wp2
  go_ret
  exact ⟨rfl, rfl⟩

set_option linter.unusedVariables false in
set_option maxHeartbeats 400000 in
theorem byte_cons (g : Nat) (ad : Addr) (n c : Nat) (x : Int) (A' : Option Addr) (w : World) (hb : w.heap[g]? = some (.cells #[.slice (some ad) (n + 1) c] 45 (0, 0))) (hc : n + 1 ≤ c) (hm : c ≤ 9223372036854775807) (hx : w.cell? ad = some (.int .u8 x)) (hx0 : 0 ≤ x) (hx1 : x ≤ 255)
    (hcut : ∀ W : World, (Instr.slice 29 (.slice (some ad) (n + 1) c) (some (.int .i64 ((1 : Nat) : Int))) none none).run Tryd.prog W = .ok (.slice A' (n + 1 - 1) (c - 1)) W) :
    Calls Tryd.prog 32 #[.pointer (some ⟨g, 0, none⟩)] w fun e w' => e = .returned (.int .i64 x) ∧ w' = w.setCell ⟨g, 0, none⟩ (.slice A' (n + 1 - 1) (c - 1)) := by
  have c0 : w.cell? ⟨g, 0, none⟩ = some (.slice (some ad) (n + 1) c) := blk_cell hb 0
  have f0 : w.frozen? ⟨g, 0, none⟩ = false := blk_frozen hb 0
  have hcut' : ∀ W : World, (Instr.slice 29 (.slice (some ad) (n + 1) c) (some (.int .i64 1)) none none).run Tryd.prog W = .ok (.slice A' (n + 1 - 1) (c - 1)) W := hcut
  clear hcut
  go_enter Tryd.func32, Tryd.ntmps32
  go_wp2
  go_ret
  exact ⟨rfl, rfl⟩
theorem info5 : (Tryd.prog.info? 5).map (fun i => (i.zero, i.size, i.bytes)) = some (some (.int .u8 0), 1, 1) := by kernel_rfl

theorem byte_any (B g : Nat) (xs : List Int) (w : World) (h : Rd w B g xs) :
    Calls Tryd.prog 32 #[.pointer (some ⟨g, 0, none⟩)] w (BytePost w B g xs) := by
  obtain ⟨A, c, hk, hc, hm, hr, hB, hA, hx⟩ := id h
  cases xs with
  | nil => exact (byte_nil g A c w hk).mono (fun e w' ⟨he, hw⟩ => by subst hw; exact ⟨he, h, grown_refl _ _⟩)
  | cons x t =>
    obtain ⟨i5, hi, hz0, hz1, hz2⟩ := info_parts info5
    obtain ⟨ad, rfl, hcell⟩ := hr.2.2 (by simp)
    have hx0 : w.cell? ad = some (.int .u8 x) := by simpa [Addr.add] using hcell 0 (by simp)
    have hstep := Rd.step (m := 1) hk hc hm hr hB hA hx (by simp) _ rfl
    have hrun : ∀ W : World, (Instr.slice 29 (.slice (some ad) (t.length + 1) c) (some (.int .i64 ((1 : Nat) : Int))) none none).run Tryd.prog W = .ok (.slice (if c = 1 then some ad else (some ad).map (·.add 1)) (t.length + 1 - 1) (c - 1)) W := by
      intro W
      have hel : Tryd.prog.elem 29 = 5 := by simp [Program.elem, Tryd.underlying29]
      rw [run_slice_l W 29 (some ad) (t.length + 1) c (by rw [hel]; exact Tryd.underlying29) .i64 ((1 : Nat) : Int) (by omega) (by simp at hc; omega), hel]
      simp [sizeOf, typeInfo, hi, hz1, sliced, Result.andThen]
    refine (byte_cons g ad t.length c x _ w hk hc hm hx0 (hx x (by simp)).1 (hx x (by simp)).2 hrun).mono ?_
    rintro e w' ⟨rfl, rfl⟩
    exact ⟨rfl, hstep.1, hstep.2⟩

/-- What 'text' takes, and what is left. -/
def textLen (xs : List Int) : Nat := min (256 * hd xs + hd (tl xs)).toNat (tl (tl xs)).length
def textOf (xs : List Int) : ByteArray := strOfNums ((tl (tl xs)).take (textLen xs))
def textRest (xs : List Int) : List Int := (tl (tl xs)).drop (textLen xs)
def TextPost (w : World) (B g : Nat) (xs : List Int) (e : Ending) (w' : World) : Prop := e = .returned (.string (textOf xs)) ∧ Rd w' B g (textRest xs) ∧ w.grownBy w' (some g)

theorem head_byte {xs : List Int} (h : ∀ x ∈ xs, 0 ≤ x ∧ x ≤ 255) : 0 ≤ hd xs ∧ hd xs ≤ 255 := by
  cases xs with
  | nil => simp [hd]
  | cons x t => exact h x (by simp)

theorem slice_low (A : Option Addr) (n c m : Nat) (hm : m ≤ n) (W : World) :
    (Instr.slice 29 (.slice A n c) (some (.int .i64 (m : Int))) none none).run Tryd.prog W = .ok (.slice (if c = m then A else A.map (·.add m)) (n - m) (c - m)) W := by
  obtain ⟨i5, hi, hz0, hz1, hz2⟩ := info_parts info5
  have hel : Tryd.prog.elem 29 = 5 := by simp [Program.elem, Tryd.underlying29]
  rw [run_slice_l W 29 A n c (by rw [hel]; exact Tryd.underlying29) .i64 (m : Int) (by omega) (by omega), hel]
  simp [sizeOf, typeInfo, hi, hz1, sliced, Result.andThen]
theorem slice_high (A : Option Addr) (n c m : Nat) (hm : m ≤ n) (hc : n ≤ c) (W : World) :
    (Instr.slice 29 (.slice A n c) none (some (.int .i64 (m : Int))) none).run Tryd.prog W = .ok (.slice A m c) W := by
  obtain ⟨i5, hi, hz0, hz1, hz2⟩ := info_parts info5
  have h := (print_take_int (P := Tryd.prog) (k := .u8) 29 5 Tryd.underlying29 hi hz1 A c (List.replicate n 0) (m : Int) (by omega) (by simpa using hm) (by simpa using hc)).1 W
  simpa [Nat.min_eq_left hm] using h

attribute [local go_sem] min2_int min_two in
set_option maxHeartbeats 800000 in
theorem text_any (B g : Nat) (xs : List Int) (w : World) (h : Rd w B g xs) :
    Calls Tryd.prog 33 #[.pointer (some ⟨g, 0, none⟩)] w (TextPost w B g xs) := by
  have hB0 := h.byte
  have hB1 : ∀ x ∈ tl xs, 0 ≤ x ∧ x ≤ 255 := fun x hx => hB0 x (List.mem_of_mem_tail hx)
  obtain ⟨p0, p1⟩ := head_byte hB0
  obtain ⟨q0, q1⟩ := head_byte hB1
  clear hB0 hB1
  obtain ⟨T, hT⟩ : ∃ T, T = textOf xs := ⟨_, rfl⟩
  obtain ⟨R, hR⟩ : ∃ R, R = textRest xs := ⟨_, rfl⟩
  unfold TextPost
  rw [← hT, ← hR]
  unfold textOf at hT
  unfold textRest at hR
  go_enter Tryd.func33, Tryd.ntmps33
  go_wp2_with fail
  refine (byte_any B g xs _ h).mono ?_
  rintro e w1 ⟨rfl, h1, g1⟩
  go_wp2_with fail
  refine (byte_any B g (tl xs) _ h1).mono ?_
  rintro e w2 ⟨rfl, h2, g2⟩
  have g12 := Aside0.mk (grown_trans g1 g2)
  clear g1 g2 h h1
  unfold textLen at hT hR
  generalize hd xs = p at *
  generalize hd (tl xs) = q at *
  generalize tl (tl xs) = rs at *
  obtain ⟨A, c, hk, hc, hm, hr, hB, hA, hx⟩ := h2
  have c0 : w2.cell? ⟨g, 0, none⟩ = some (.slice A rs.length c) := blk_cell hk 0
  have f0 : w2.frozen? ⟨g, 0, none⟩ = false := blk_frozen hk 0
  have hl : rs.length ≤ 9223372036854775807 := by omega
  by_cases hlt : (rs.length : Int) < p * 256 + q
  · have hmin : min (256 * p + q).toNat rs.length = rs.length := by omega
    rw [hmin] at hT hR
    have hst0 := Rd.step (m := rs.length) hk hc hm hr hB hA hx (Nat.le_refl _) _ rfl
    have kr := fun W => slice_low A rs.length c rs.length (Nat.le_refl _) W
    generalize (if c = rs.length then A else Option.map (fun x => x.add rs.length) A) = A' at *
    rw [Nat.sub_self] at hst0
    have kr' : ∀ W : World, (Instr.slice 29 (.slice A rs.length c) (some (.int .i64 (rs.length : Int))) none none).run Tryd.prog W = .ok (.slice A' 0 (c - rs.length)) W := fun W => by rw [kr W, Nat.sub_self]
    clear kr
    have hst := Aside0.mk hst0
    clear hst0
    have kl := fun W => slice_high A rs.length c rs.length (Nat.le_refl _) hc W
    have kc : (convert 29 9 (.slice A rs.length c)).run Tryd.prog w2 = .ok (.string (strOfNums rs)) w2 := string_of_reads Tryd.underlying29 Tryd.underlying5 Tryd.underlying9 hr
    rw [List.take_length] at hT
    have HT := Aside0.mk hT
    have HR := Aside0.mk hR
    have HK := Aside0.mk hk
    clear hT hR hmin hk hr hA hx hB
    go_wp2_with fail
    go_ret
    refine ⟨by rw [HT.out]; rfl, by rw [HR.out]; exact hst.out.1, grown_trans g12.out hst.out.2⟩
  · obtain ⟨m, hm0, hml⟩ : ∃ m : Nat, p * 256 + q = (m : Int) ∧ m ≤ rs.length := ⟨(p * 256 + q).toNat, by omega, by omega⟩
    have hmin : min (256 * p + q).toNat rs.length = m := by omega
    rw [hmin] at hT hR
    have hst0 := Rd.step (m := m) hk hc hm hr hB hA hx hml _ rfl
    have kr := fun W => slice_low A rs.length c m hml W
    generalize (if c = m then A else Option.map (fun x => x.add m) A) = A' at *
    have hst := Aside0.mk hst0
    clear hst0
    have kl := fun W => slice_high A rs.length c m hml hc W
    have hrt := hr.take_ m hml
    have kc : (convert 29 9 (.slice A m c)).run Tryd.prog w2 = .ok (.string (strOfNums (rs.take m))) w2 := string_of_reads Tryd.underlying29 Tryd.underlying5 Tryd.underlying9 hrt
    have HT := Aside0.mk hT
    have HR := Aside0.mk hR
    have HK := Aside0.mk hk
    clear hT hR hmin hk hr hA hx hB hrt
    go_wp2_with fail
    go_ret
    refine ⟨by rw [HT.out]; rfl, by rw [HR.out]; exact hst.out.1, grown_trans g12.out hst.out.2⟩

#print axioms byte_any
#print axioms text_any
end Go.Proofs.YtahfcdlggaoakaaDoor.Rd

/- script.Encode: the bytes of acts, or which error. Conditions: beyond the acts' own reading: kinds and nodes are bytes. -/
import Derived.Test.YtahfcdlggaoakaaDoorPut
namespace Go.Proofs.YtahfcdlggaoakaaDoor.Rd
open Go.RowKit Go.Proofs.YtahfcdlggaoakaaDoorW.PrintWords Go.Proofs.YtahfcdlggaoakaaDoorW.PrintLast Go.Proofs.YtahfcdlggaoakaaDoorW.PrintMore
open Go.Proofs.YtahfcdlggaoakaaDoor.PScriptDecodes
set_option linter.unusedVariables false
set_option linter.unusedSimpArgs false

def plainA (a : S26) : Bool := plainB a.f0 a.f1 a.f2 a.f3 a.f4.f0 a.f4.f1
def putA (a : S26) : List Int := putOf a.f0 a.f1 a.f2 a.f3 a.f4.f0 a.f4.f1
def putsA (l : List S26) : List Int := l.flatMap putA
/-- What Encode answers. -/
def enc (l : List S26) : List Int × Int := if 400 < l.length then ([], 3) else if l.all plainA then (putsA l, 0) else ([], 1)
/-- A kind and a node are bytes. -/
def okA (a : S26) : Prop := (0 ≤ a.f0 ∧ a.f0 ≤ 255) ∧ 0 ≤ a.f1 ∧ a.f1 ≤ 255

theorem pairBytes_len2 (xs ys : List Int) : (pairBytes xs ys).length ≤ 2 * xs.length := pairBytes_len xs ys
theorem putA_len {a : S26} (h : plainA a = true) : (putA a).length ≤ 66000 := by
  have h := (plainB_iff _ _ _ _ _ _).1 h
  have hl := pairBytes_len a.f4.f0 a.f4.f1
  unfold putA putOf
  simp only [List.length_append]
  have h1 : (if a.f0 = 1 ∨ 5 ≤ a.f0 ∧ a.f0 ≤ 8 then [a.f1 - 1] else if a.f0 = 9 then [a.f1] else []).length ≤ 1 := by split; simp; split <;> simp
  have h2 : (if 2 ≤ a.f0 ∧ a.f0 ≤ 6 ∨ a.f0 = 9 then [a.f2] else []).length ≤ 1 := by split <;> simp
  have h3 : (if a.f0 = 1 then [(a.f3.size : Int) / 256, (a.f3.size : Int) % 256] ++ bytesOf a.f3 else []).length ≤ 65537 := by
    split
    · simp [bytesOf_length]; omega
    · simp
  have h4 : (if a.f0 = 6 ∨ a.f0 = 7 then [(a.f4.f0.length : Int)] ++ pairBytes a.f4.f0 a.f4.f1 else []).length ≤ 15 := by
    split
    · simp; omega
    · simp
  simp only [List.length_cons, List.length_nil]
  omega
theorem putsA_len {l : List S26} (h : l.all plainA = true) : (putsA l).length ≤ 66000 * l.length := by
  induction l with
  | nil => simp [putsA]
  | cons a l ih =>
    rw [List.all_cons, Bool.and_eq_true] at h
    have h1 := putA_len h.1
    have h2 := ih h.2
    simp only [putsA, List.flatMap_cons, List.length_append, List.length_cons] at h2 ⊢
    omega

/-- Cells that are read lie below the heap's size. -/
theorem reads_lt {w : World} {k : IntKind} {A : Option Addr} {n : Nat} {xs : List Int} (h : ReadsInt w k A n xs) : 0 < n → ∀ ad, A = some ad → ad.block < w.heap.size := by
  intro hn ad e
  obtain ⟨ad', e', hc⟩ := h.2.2 hn
  rw [e] at e'
  injection e' with e'
  subst e'
  have := World.block_lt_of_cell? w _ (hc 0 hn)
  simpa [Addr.add] using this
theorem Buf.below {B b : Nat} {xs : List Int} {w w1 : World} (h : Buf B b xs w) (hw : Below w.heap.size w w1) : Buf B b xs w1 := by
  obtain ⟨h1, v, lr, h2, h3, h4⟩ := h
  exact ⟨h1, v, lr, blk_below h2 hw, pw_own_below h3 hw, h4⟩

structure ES (z w : World) (xs : List Int) : Prop where
  buf : Buf z.heap.size z.heap.size xs w
  fr : Below z.heap.size z w
theorem ES.alloc {z w : World} {xs : List Int} (h : ES z w xs) (o : Obj) : ES z (w.alloc o) xs := ⟨h.buf.alloc o, h.fr.alloc h.fr.size o⟩
theorem ES.below {z w w1 : World} {xs : List Int} (h : ES z w xs) (hw : Below w.heap.size w w1) : ES z w1 xs := ⟨h.buf.below hw, below_then h.fr h.fr.size hw⟩

def EncPost (z : World) (l : List S26) (e : Ending) (w' : World) : Prop :=
  ∃ v, e = .returned (.tuple #[v, .int .i64 (enc l).2]) ∧ w'.ownsRow z.heap.size 5 1 v (enc l).1.length (nums .u8 (enc l).1) ∧ Below z.heap.size z w'

theorem encode_long (A : Option Addr) (c : Nat) (l : List S26) (z : World) (hl : 400 < l.length) (hn : l.length ≤ 9223372036854775807) :
    Calls Tryd.prog 10 #[.slice A l.length c] z (EncPost z l) := by
  have he : enc l = ([], 3) := by simp [enc, hl]
  unfold EncPost
  rw [he]
  clear he
  go_enter Tryd.func10, Tryd.ntmps10
  go_wp2
  go_ret2
  exact ⟨_, rfl, own_nil _ _ _ _, Below.refl _ _⟩

set_option maxRecDepth 100000 in
set_option maxHeartbeats 2000000 in
theorem encode_some (A : Option Addr) (c : Nat) (l : List S26) (z : World) (hl : l.length ≤ 400) (hr : Kd.C k26 z A l.length l) (hok : ∀ a ∈ l, okA a) :
    Calls Tryd.prog 10 #[.slice A l.length c] z (EncPost z l) := by
  obtain ⟨E, hE⟩ : ∃ E, E = enc l := ⟨_, rfl⟩
  unfold EncPost
  rw [← hE]
  have HE := Aside0.mk hE
  have HR := Aside0.mk hr
  have HOK := Aside0.mk hok
  have H0 : Aside0 (ES z (z.alloc (.cells #[.slice none 0 0, .int .i64 0, .int .i8 0] 50)) []) :=
    ⟨⟨Lib.fresh_isBuffer 50 5 z, below_alloc (Below.refl _ _) _⟩⟩
  clear hE hr hok
  go_enter Tryd.func10, Tryd.ntmps10
  go_wp2
  go_loopg [12] l.length (fun kq v12 wr => ∃ j : Nat, v12 = .int .i64 (j : Int) ∧ j + kq = l.length ∧ Aside0 ((l.take j).all plainA = true) ∧ Aside0 (ES z wr (putsA (l.take j))))
  case atStart => exact ⟨0, rfl, by omega, ⟨by simp⟩, ⟨by simpa [putsA] using H0.out⟩⟩
  case round =>
    obtain ⟨j, rfl, hjk, HP, H⟩ := hrel
    by_cases hlt : j < l.length
    · obtain ⟨ad, B4, d4, B5, d5, rfl, y0, y1, y2, y3, y4, y5, l4, g4, l5, g5⟩ := at_T26 HR.out (j : Int) (by omega) (by omega)
      rw [Int.toNat_natCast] at y0 y1 y2 y3 y4 y5
      obtain ⟨a, ha⟩ : ∃ a, a = rd_T26 l (j : Int) := ⟨_, rfl⟩
      rw [← ha] at y0 y1 y2 y3 y4 y5 l4 g4 l5 g5
      have x0 := pw_cell_below H.out.fr y0
      have x1 := pw_cell_below H.out.fr y1
      have x2 := pw_cell_below H.out.fr y2
      have x3 := pw_cell_below H.out.fr y3
      have x4 := pw_cell_below H.out.fr y4
      have x5 := pw_cell_below H.out.fr y5
      have R4 : Aside0 (ReadsInt z .i64 B4 a.f4.f0.length a.f4.f0) := ⟨Kd.reads_of_C (enc := Value.int .i64) (d := (0 : Int)) (h1 := fun _ => rfl) g4⟩
      have R5 : Aside0 (ReadsInt z .i64 B5 a.f4.f1.length a.f4.f1) := ⟨Kd.reads_of_C (enc := Value.int .i64) (d := (0 : Int)) (h1 := fun _ => rfl) g5⟩
      have hel : a = l[j] := by rw [ha]; unfold rd_T26; rw [Int.toNat_natCast, List.getD_eq_getElem?_getD, List.getElem?_eq_getElem hlt]; rfl
      have hmem : a ∈ l := by rw [hel]; exact List.getElem_mem hlt
      have htk : l.take (j + 1) = l.take j ++ [a] := by rw [List.take_succ_eq_append_getElem hlt, hel]
      have HT := Aside0.mk htk
      have HMEM := Aside0.mk hmem
      obtain ⟨⟨ok0, ok1⟩, ok2, ok3⟩ := HOK.out a hmem
      have HJ := Aside0.mk hjk
      clear hmem ha hjk y0 y1 y2 y3 y4 y5 g4 g5 hel htk
      go_wp2_with fail
      refine (plain_any a.f0 a.f1 a.f2 a.f3 B4 B5 d4 d5 a.f4.f0 a.f4.f1 _ (R4.out.below (below_alloc H.out.fr _)) (R5.out.below (below_alloc H.out.fr _)) l4 l5 ok0 ok1 ok2 ok3).mono ?_
      rintro e w2 ⟨rfl, hb⟩
      have hblk := blk_below (blk_new wr (.cells #[.int .u8 a.f0, .int .u8 a.f1, .int .i64 a.f2, .string a.f3, .slice B4 a.f4.f0.length d4, .slice B5 a.f4.f1.length d5] 26)) hb
      have z0 : w2.cell? ⟨wr.heap.size, 0, none⟩ = some (.int .u8 a.f0) := blk_cell hblk 0
      have z1 : w2.cell? ⟨wr.heap.size, 1, none⟩ = some (.int .u8 a.f1) := blk_cell hblk 1
      have z2 : w2.cell? ⟨wr.heap.size, 2, none⟩ = some (.int .i64 a.f2) := blk_cell hblk 2
      have z3 : w2.cell? ⟨wr.heap.size, 3, none⟩ = some (.string a.f3) := blk_cell hblk 3
      have z4 : w2.cell? ⟨wr.heap.size, 4, none⟩ = some (.slice B4 a.f4.f0.length d4) := blk_cell hblk 4
      have z5 : w2.cell? ⟨wr.heap.size, 5, none⟩ = some (.slice B5 a.f4.f1.length d5) := blk_cell hblk 5
      have H2 := Aside0.mk ((H.out.alloc _).below hb)
      clear hb hblk H x0 x1 x2 x3 x4 x5
      by_cases hp : plainA a = true
      · have hp' : plainB a.f0 a.f1 a.f2 a.f3 a.f4.f0 a.f4.f1 = true := hp
        rw [hp']
        have HPA := Aside0.mk hp
        have hlen := putsA_len HP.out
        rw [List.length_take, Nat.min_eq_left (by omega)] at hlen
        clear hp hp'
        go_wp2_with fail
        refine (put_any z.heap.size z.heap.size _ a.f0 a.f1 a.f2 a.f3 B4 B5 d4 d5 a.f4.f0 a.f4.f1 _ H2.out.buf H2.out.fr.size (R4.out.below H2.out.fr) (R5.out.below H2.out.fr) (reads_lt R4.out) (reads_lt R5.out) (by omega) HPA.out).mono ?_
        rintro e w3 ⟨rfl, hbf, hb⟩
        have H3 : Aside0 (ES z w3 (putsA (l.take (j + 1)))) := ⟨⟨by rw [HT.out]; simpa [putsA, putA] using hbf, H2.out.fr.trans hb⟩⟩
        clear hbf hb H2 z0 z1 z2 z3 z4 z5
        go_wp2
        go_roundg (gk - 1)
        case measure => have := HJ.out; omega
        case rel => exact ⟨j + 1, by go_num, by have := HJ.out; omega, ⟨by rw [HT.out, List.all_append, HP.out]; simp [HPA.out]⟩, H3⟩
      · have hp' : plainB a.f0 a.f1 a.f2 a.f3 a.f4.f0 a.f4.f1 = false := by simpa [plainA] using hp
        rw [hp']
        have HE2 : E = ([], 1) := by
          rw [HE.out]
          unfold enc
          rw [if_neg (by omega), if_neg (by intro h; exact hp (List.all_eq_true.1 h a HMEM.out))]
        have HE3 := Aside0.mk HE2
        clear HE2 hp hp'
        go_wp2
        go_ret2
        rw [HE3.out]
        exact ⟨_, rfl, own_nil _ _ _ _, H2.out.fr⟩
    · have hjn : j = l.length := by omega
      have HE2 : E = (putsA l, 0) := by
        rw [HE.out]
        unfold enc
        have hpl := HP.out
        rw [hjn, List.take_length] at hpl
        rw [if_neg (by omega), if_pos hpl]
      have HE3 := Aside0.mk HE2
      have H2 : Aside0 (ES z wr (putsA l)) := ⟨by have h := H.out; rwa [hjn, List.take_length] at h⟩
      clear HE2 hjn hjk H HP
      go_wp2_with fail
      refine (Tryd.Buffer_Bytes z.heap.size z.heap.size _ _ H2.out.buf).mono ?_
      rintro e w2 ⟨v, rfl, hown, nd, rfl⟩
      have HO := Aside0.mk hown
      clear hown
      go_wp2
      go_ret2
      rw [HE3.out]
      exact ⟨_, rfl, by simpa [nums_length] using HO.out, pw_below_drewN H2.out.fr _⟩

theorem encode_any (A : Option Addr) (c : Nat) (l : List S26) (z : World) (hr : Kd.C k26 z A l.length l) (hok : ∀ a ∈ l, okA a) :
    Calls Tryd.prog 10 #[.slice A l.length c] z (EncPost z l) := by
  by_cases hl : l.length ≤ 400
  · exact encode_some A c l z hl hr hok
  · exact encode_long A c l z (by omega) hr.2.1
#print axioms encode_any
end Go.Proofs.YtahfcdlggaoakaaDoor.Rd

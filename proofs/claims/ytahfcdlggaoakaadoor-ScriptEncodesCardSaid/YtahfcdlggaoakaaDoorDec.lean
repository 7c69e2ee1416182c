/- script.Decode: it returns the acts that the bytes are, in new memory. Conditions: none beyond the slice's own reading. -/
import Derived.Test.YtahfcdlggaoakaaDoorAct
namespace Go.Proofs.YtahfcdlggaoakaaDoor.Rd
open Go.RowKit Go.Proofs.YtahfcdlggaoakaaDoorW.PrintWords Go.Proofs.YtahfcdlggaoakaaDoorW.PrintLast Go.Proofs.YtahfcdlggaoakaaDoorW.PrintMore
open Go.Proofs.YtahfcdlggaoakaaDoor.PScriptDecodes

/-- The acts that bytes are: n at most. -/
def dec : Nat → List Int → List S26
  | 0, _ => []
  | n + 1, xs => if xs = [] then [] else actOf xs :: dec n (actRest xs)

/-- The decoded acts in memory of the call's own. -/
abbrev RA (w : World) (base : Nat) (v : Value) (l : List S26) : Prop := Kd.R k26 26 w base (fun _ => True) v l

structure DS (z w : World) (g : Nat) (rs : List Int) (v : Value) (out : List S26) : Prop where
  rd : Rd w z.heap.size g rs
  blk : ∃ A c, w.heap[g]? = some (.cells #[.slice A rs.length c] 45 (0, 0)) ∧ rs.length ≤ c ∧ c ≤ 9223372036854775807
  own : RA w z.heap.size v out
  fr : Below z.heap.size z w

theorem k26_E (q : Nat) (hq : q ∈ 26 :: k26.E) : q ≠ 45 := by
  have : q ∈ [26, 3, 3] := hq
  simp at this
  omega

theorem DS.step {z w w2 : World} {g : Nat} {rs rs' : List Int} {v v4 v5 : Value} {out : List S26} {a : S26} (h : DS z w g rs v out)
    (h4 : RI w2 w.heap.size (fun k => some k ≠ v5.ownBlock) v4 a.f4.f0) (h5 : RI w2 w.heap.size (fun k => some k ≠ v4.ownBlock) v5 a.f4.f1) (hr : Rd w2 z.heap.size g rs') (hg : w.grownBy w2 (some g)) :
    DS z w2 g rs' v out ∧ k26.M w2 z.heap.size (fun k => w.heap.size ≤ k) a [.int .u8 a.f0, .int .u8 a.f1, .int .i64 a.f2, .string a.f3, v4, v5] := by
  obtain ⟨A, c, hb, hc, hm⟩ := h.blk
  have hrg := h.rd.ge
  have hsz := h.fr.size
  refine ⟨⟨hr, ?_, Kd.R_mono (Kd.R_grown (Kd.R_types h.own hb k26_E) hg (fun k hk e => by injection e with e; exact hk.2 e)) (fun _ _ => trivial),
    ⟨hg.os.trans h.fr.os, hg.tape.trans h.fr.tape, hg.output.trans h.fr.output, Nat.le_trans h.fr.size hg.size, fun k hk => (hg.block k (by omega) (by intro e; injection e; omega)).trans (h.fr.block k hk)⟩⟩,
    k26_mkM _ _ _ a (RI.any (Kd.R_lower h4 hsz) (fun k e => Kd.R_base h4 k e)) (RI.any (Kd.R_lower h5 hsz) (fun k e => Kd.R_base h5 k e))⟩
  obtain ⟨A', c', hk, hc', hm', _⟩ := hr
  exact ⟨A', c', hk, hc', hm'⟩

theorem DS.app {z w w2 : World} {g : Nat} {rs : List Int} {v nv : Value} {out out' : List S26} (h : DS z w g rs v out) (ho : RA w2 z.heap.size nv out') (hb : Below z.heap.size z w2) (hg : w.grownBy w2 v.ownBlock) : DS z w2 g rs nv out' := by
  obtain ⟨A, c, hbk, hc, hm⟩ := h.blk
  have hne : some g ≠ v.ownBlock := Kd.R_ne h.own hbk (by decide)
  exact ⟨h.rd.grown hg hne (fun k e => Kd.R_base h.own k e), ⟨A, c, blk_grown hbk hg hne, hc, hm⟩, ho, hb⟩

set_option maxRecDepth 100000 in
set_option maxHeartbeats 2000000 in
theorem decode_any (A : Option Addr) (n c : Nat) (xs : List Int) (z : World) (hr : ReadsInt z .u8 A n xs) (hc : n ≤ c) (hm : c ≤ 9223372036854775807) (hA : 0 < n → ∀ ad, A = some ad → ad.block < z.heap.size) (hx : ∀ x ∈ xs, 0 ≤ x ∧ x ≤ 255) :
    Calls Tryd.prog 9 #[.slice A n c] z fun e w' => ∃ v, e = .returned v ∧ RA w' z.heap.size v (dec 400 xs) ∧ Below z.heap.size z w' := by
  obtain ⟨L, hL⟩ : ∃ L, L = dec 400 xs := ⟨_, rfl⟩
  rw [← hL]
  have hn : xs.length = n := hr.1
  have H0 : Aside0 (DS z (z.alloc (.cells #[.slice A n c] 45 (0, 0))) z.heap.size xs (.slice none 0 0) []) := by
    refine ⟨⟨⟨A, c, by rw [hn]; exact blk_new _ _, by omega, hm, ?_, Nat.le_refl _, by rw [hn]; exact hA, hx⟩, ⟨A, c, by rw [hn]; exact blk_new _ _, by omega, hm⟩, Kd.R_nil _ _ _ _ _, below_alloc (Below.refl _ _) _⟩⟩
    rw [hn]
    exact hr.below (below_alloc (Below.refl _ _) _)
  have HL := Aside0.mk hL
  have hn' := Aside0.mk hn
  clear hL hn hr hA hx
  go_enter Tryd.func9, Tryd.ntmps9
  go_wp2
  go_loopg [3] 400 (fun kq v3 wr => ∃ (j : Nat) (rs : List Int) (out : List S26), j + kq = 400 ∧ out.length = j ∧ Aside0 (out ++ dec kq rs = L) ∧ Aside0 (DS z wr z.heap.size rs v3 out))
  case atStart => exact ⟨0, xs, [], rfl, rfl, ⟨by rw [HL.out]; rfl⟩, H0⟩
  case round =>
    obtain ⟨j, rs, out, hjk, hlo, HP, H⟩ := hrel
    obtain ⟨Ar, cr, hbk, hcr, hmr⟩ := H.out.blk
    obtain ⟨Ao, co, eo⟩ := Kd.R_slice H.out.own
    subst eo
    have cc : wr.cell? ⟨z.heap.size, 0, none⟩ = some (.slice Ar rs.length cr) := (blk_cell hbk 0).trans rfl
    have hlj : out.length ≤ 400 := by omega
    have HJ := Aside0.mk hlo
    have HK := Aside0.mk hjk
    clear hbk hlo hjk
    by_cases hrs : 0 < rs.length
    · by_cases hlt : out.length < 400
      · go_wp2_with fail
        refine (act_any z.heap.size z.heap.size rs _ H.out.rd).mono ?_
        rintro e w2 ⟨v4, v5, rfl, h4, h5, hr1, hg1⟩
        obtain ⟨A4, c4, e4⟩ := Kd.R_slice h4
        obtain ⟨A5, c5, e5⟩ := Kd.R_slice h5
        subst e4
        subst e5
        have HS := Aside0.mk (H.out.step h4 h5 hr1 hg1)
        have hlt2 : ∀ k, (Value.slice Ao out.length co).ownBlock = some k → k < wr.heap.size := Kd.R_lt H.out.own
        have HB2 := Aside0.mk hlt2
        have HZ := Aside0.mk hg1.size
        have HP2 : Aside0 (out ++ [actOf rs] ++ dec (gk - 1) (actRest rs) = L) := ⟨by
          rw [← HP.out]
          obtain ⟨q, rfl⟩ : ∃ q, gk = q + 1 := ⟨gk - 1, by have := HK.out; have := HJ.out; omega⟩
          have hne : rs ≠ [] := by intro e; rw [e] at hrs; exact absurd hrs (by simp)
          simp [dec, hne]⟩
        clear H h4 h5 hr1 hg1 cc hlt2 HP
        generalize actRest rs = rs' at *
        go_wp2_with (at_builtin; refine Kd.R_append k26 (w0 := z) z.heap.size rfl (.tmp 19) (.tmp 22) 27 26 (.agg #[(.int .u8 0), (.int .u8 0), (.int .i64 0), (.string ⟨#[]⟩), (.slice none 0 0), (.slice none 0 0)]) 80 rfl Tryd.underlying27 info26 rfl (by decide) (by omega) (.slice Ao out.length co) out (actOf rs) [.int .u8 (actOf rs).f0, .int .u8 (actOf rs).f1, .int .i64 (actOf rs).f2, .string (actOf rs).f3, .slice A4 (actOf rs).f4.f0.length c4, .slice A5 (actOf rs).f4.f1.length c5] (fun _ => True) (fun k => wr.heap.size ≤ k) rfl rfl HS.out.2 (fun k hk => ⟨trivial, fun e => by have := HB2.out k e.symm; omega⟩) (fun _ _ => trivial) HS.out.1.own HS.out.1.fr HS.out.1.fr.size (by omega) ?_; intro nv w3 ho hb hg hat)
        have H3 := Aside0.mk (HS.out.1.app ho hb hg)
        clear HS ho hb hg hat
        go_wp2
        go_roundg (gk - 1)
        case measure => have := HK.out; have := HJ.out; omega
        case rel => exact ⟨j + 1, rs', out ++ [actOf rs], by have := HK.out; have := HJ.out; omega, by simp [HJ.out], HP2, H3⟩
      · have HE : Aside0 (out = L) := ⟨by
          rw [← HP.out]
          obtain rfl : gk = 0 := by have := HK.out; have := HJ.out; omega
          simp [dec]⟩
        go_wp2
        go_ret
        exact ⟨_, rfl, by rw [← HE.out]; exact H.out.own, H.out.fr⟩
    · have HE : Aside0 (out = L) := ⟨by
        rw [← HP.out]
        obtain rfl : rs = [] := List.eq_nil_of_length_eq_zero (by omega)
        cases gk <;> simp [dec]⟩
      go_wp2
      go_ret
      exact ⟨_, rfl, by rw [← HE.out]; exact H.out.own, H.out.fr⟩
#print axioms decode_any
end Go.Proofs.YtahfcdlggaoakaaDoor.Rd

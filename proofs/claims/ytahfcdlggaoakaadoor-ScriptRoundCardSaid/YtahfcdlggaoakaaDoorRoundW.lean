/- ScriptRound, walked: it returns true for any five bytes. -/
import Derived.Test.YtahfcdlggaoakaaDoorAw
import Derived.Test.YtahfcdlggaoakaaDoorPlain
namespace Go.Proofs.YtahfcdlggaoakaaDoor.Rd
open Go.RowKit Go.Proofs.YtahfcdlggaoakaaDoorW.PrintWords Go.Proofs.YtahfcdlggaoakaaDoorW.PrintLast Go.Proofs.YtahfcdlggaoakaaDoorW.PrintMore
open Go.Proofs.YtahfcdlggaoakaaDoor.PScriptDecodes
set_option linter.unusedVariables false
set_option linter.unusedSimpArgs false

/-- The acts of two stretches that differ by what counts round. -/
theorem act_round (k k' n n' : Int) (r : List Int) (hk : k' % 9 = k % 9) (hn : n' = n ∨ ((k % 9 = 0 ∨ 4 ≤ k % 9 ∧ k % 9 ≤ 7) ∧ n' % 5 = n % 5)) : actOf (k' :: n' :: r) = actOf (k :: n :: r) := by
  rcases hn with rfl | ⟨hc, hn⟩
  · unfold actOf
    simp only [hd_cons, tl_cons, hk]
  · have hN : actNode (1 + k % 9) (n' :: r) = actNode (1 + k % 9) (n :: r) := by
      unfold actNode
      rw [if_pos (by omega), if_pos (by omega)]
      simp only [hd_cons, tl_cons, hn]
    unfold actOf
    simp only [hd_cons, tl_cons, hk, hN]
theorem act_kind (xs : List Int) : (actOf xs).f0 = 1 + hd xs % 9 := rfl

theorem u8_bounds {x : Int} (h : (Lit.int .u8 x).wf = true) : 0 ≤ x ∧ x ≤ 255 := by
  simp only [Lit.wf, Bool.and_eq_true, decide_eq_true_eq] at h
  exact h
def TR8 : Bool × List (List Nat × List Nat) := (true, [([], []), ([0], [0]), ([], []), ([2], [2]), ([1, 3], [1, 3]), ([4, 4], [4]), ([5, 5], [5]), ([5, 6], [5, 6]), ([7, 6, 0, 1, 2, 3, 4, 5, 6, 7], [7])])
def BR8 : List Nat := [0, 1, 0, 4, 15, 31, 63, 127, 255]
theorem tabR8 : rtab .any (opsOf Tryd.f8 10) = TR8 := by kernel_rfl
theorem bitsR8 : waitsOk TR8.2 BR8 = true := by kernel_rfl

theorem take_one (A : Option Addr) (n c : Nat) (hc : 1 ≤ c) (W : World) :
    (Instr.slice 27 (.slice A n c) none (some (.int .i64 1)) none).run Tryd.prog W = .ok (.slice A 1 c) W := by
  obtain ⟨i26, hi, hz0, hz1, hz2⟩ := info_parts info26
  have hel : Tryd.prog.elem 27 = 26 := by simp [Program.elem, Tryd.underlying27]
  rw [run_slice_h W 27 A n c (by rw [hel]; exact Tryd.underlying27) .i64 1 (by omega) (by omega), hel]
  simp [sizeOf, typeInfo, hi, hz1, sliced, Result.andThen]
  intro _
  cases A <;> rfl

theorem u8_round (k : Int) (h0 : 0 ≤ k) (h1 : k ≤ 255) : (k % 9 + 9 * (k / 16 % 20)) % 9 = k % 9 ∧ 0 ≤ k % 9 + 9 * (k / 16 % 20) ∧ k % 9 + 9 * (k / 16 % 20) ≤ 255 := by omega
theorem u8_round5 (n : Int) (h0 : 0 ≤ n) (h1 : n ≤ 255) : (n % 5 + 5 * (n / 8 % 20)) % 5 = n % 5 ∧ 0 ≤ n % 5 + 5 * (n / 8 % 20) ∧ n % 5 + 5 * (n / 8 % 20) ≤ 255 := by omega

theorem blk_new2 (w : World) (a o : Obj) : ((w.alloc a).alloc o).heap[w.heap.size + 1]? = some o := by
  have h := blk_new (w.alloc a) o
  simpa using h
theorem dec_head (xs : List Int) (h : xs ≠ []) : ∃ P : List S26, dec 400 xs = actOf xs :: P ∧ P.length ≤ 399 := by
  refine ⟨dec 399 (actRest xs), ?_, (dec_len 399 _).1⟩
  rw [show (400 : Nat) = 399 + 1 from rfl, dec_succ, if_neg h]
theorem bs5 {a b c d e : Int} (h1 : 0 ≤ a ∧ a ≤ 255) (h2 : 0 ≤ b ∧ b ≤ 255) (h3 : 0 ≤ c ∧ c ≤ 255) (h4 : 0 ≤ d ∧ d ≤ 255) (h5 : 0 ≤ e ∧ e ≤ 255) : ∀ x ∈ [a, b, c, d, e], 0 ≤ x ∧ x ≤ 255 := by
  intro x hx
  simp only [List.mem_cons, List.not_mem_nil, or_false] at hx
  rcases hx with rfl | rfl | rfl | rfl | rfl <;> assumption
theorem first_cell {w : World} {A : Option Addr} {x : S26} {P : List S26} {n : Nat} (h : Kd.C k26 w A n (x :: P)) (hn : 0 < n) : ∃ ad, A = some ad ∧ w.cell? ad = some (.int .u8 x.f0) := by
  obtain ⟨ad, B4, d4, B5, d5, e, x0, _⟩ := at_T26 h 0 (by omega) (by omega)
  refine ⟨ad, e, ?_⟩
  simpa [Addr.add, rd_T26] using x0
set_option maxRecDepth 100000 in
set_option maxHeartbeats 400000 in
theorem round_far (k n a b c : Int) (k0 : 0 ≤ k) (k1 : k ≤ 255) (n0 : 0 ≤ n) (n1 : n ≤ 255) (a0 : 0 ≤ a) (a1 : a ≤ 255) (b0 : 0 ≤ b) (b1 : b ≤ 255) (c0 : 0 ≤ c) (c1 : c ≤ 255)
    (hk : ¬ (1 ≤ k % 9 ∧ k % 9 ≤ 3)) (hk8 : (k % 9 == 8) = false) (z : World) :
    Calls Tryd.prog 8 #[.int .u8 k, .int .u8 n, .int .u8 a, .int .u8 b, .int .u8 c] z fun e w' => e = .returned (.bool true) ∧ Below z.heap.size z w' := by
  go_enter Tryd.func8, Tryd.ntmps8
  go_wp2_with fail

  all_goals
    refine (decode_any _ 5 5 [k % 9, n % 5, a, b, c] _ (reads_blk (k := .u8) (xs := [k % 9, n % 5, a, b, c]) (blk_alloc (blk_new _ _) _) (by simp)) (by decide) (by decide) (fun _ ad e => by injection e with e; subst e; simp; omega) (bs5 (by omega) (by omega) ⟨a0, a1⟩ ⟨b0, b1⟩ ⟨c0, c1⟩)).mono ?_
    rintro e w3 ⟨v, rfl, hra, hb⟩
    obtain ⟨P, hP, hPl⟩ := dec_head [k % 9, n % 5, a, b, c] (by simp)
    rw [hP] at hra
    obtain ⟨A3, c3, rfl, hl3, hr3⟩ := Kd.R_reads hra
    have HR3 := Aside0.mk hr3
    have hl3' : P.length + 1 ≤ c3 := hl3
    have HB3 := Aside0.mk hb
    clear hra hr3 hb hl3 hP
    go_wp2_with fail
    refine (decode_any _ 5 5 [k % 9 + 9 * (k / 16 % 20), n % 5 + 5 * (n / 8 % 20), a, b, c] _ (reads_blk (k := .u8) (xs := [k % 9 + 9 * (k / 16 % 20), n % 5 + 5 * (n / 8 % 20), a, b, c]) (blk_below (blk_new2 z _ _) HB3.out) (by simp)) (by decide) (by decide) (fun _ ad e => by injection e with e; subst e; have := HB3.out.size; simp at this ⊢; omega) (bs5 ⟨(u8_round k k0 k1).2.1, (u8_round k k0 k1).2.2⟩ ⟨(u8_round5 n n0 n1).2.1, (u8_round5 n n0 n1).2.2⟩ ⟨a0, a1⟩ ⟨b0, b1⟩ ⟨c0, c1⟩)).mono ?_
    rintro e w4 ⟨v, rfl, hra, hb⟩
    obtain ⟨Q, hQ, hQl⟩ := dec_head [k % 9 + 9 * (k / 16 % 20), n % 5 + 5 * (n / 8 % 20), a, b, c] (by simp)
    rw [hQ, act_round (k % 9) _ (n % 5) _ [a, b, c] (by have := (u8_round k k0 k1).1; omega) (.inr ⟨by have := beq_eq_false_iff_ne.1 hk8; omega, by have := (u8_round5 n n0 n1).1; omega⟩)] at hra
    obtain ⟨A4, c4, rfl, hl4, hr4⟩ := Kd.R_reads hra
    have hl4' : Q.length + 1 ≤ c4 := hl4
    have HR4 := Aside0.mk hr4
    have HR34 := Aside0.mk (Kd.C_below HR3.out hb)
    have HB4 := Aside0.mk (below_then (below_alloc (below_alloc (Below.refl z.heap.size z) _) _) (below_alloc (below_alloc (Below.refl z.heap.size z) _) _).size (below_then HB3.out HB3.out.size hb))
    clear hra hr4 hb hl4 hQ HR3 HB3
    have hq0 : ((P.length : Int) + 1 == 0) = false := beq_eq_false_iff_ne.2 (by omega)
    have hq1 : ((Q.length : Int) + 1 == 0) = false := beq_eq_false_iff_ne.2 (by omega)
    obtain ⟨ad3, rfl, x3⟩ := first_cell HR34.out (by simp)
    rw [act_kind, hd_cons, show 1 + k % 9 % 9 = k % 9 + 1 by omega] at x3
    generalize actOf [k % 9, n % 5, a, b, c] = X at *
    go_wp2_with fail
    have kl3 := fun W => take_one (some ad3) (P.length + 1) c3 (by omega) W
    have kl4 := fun W => take_one A4 (Q.length + 1) c4 (by omega) W
    have T3 : Aside0 (Kd.C k26 w4.drew (some ad3) 1 [X]) := ⟨Kd.C_below (Kd.C_take HR34.out (m := 1) (by simp)) (below_drew (Below.refl _ _))⟩
    have T4 : Aside0 (Kd.C k26 w4.drew A4 1 [X]) := ⟨Kd.C_below (Kd.C_take HR4.out (m := 1) (by simp)) (below_drew (Below.refl _ _))⟩
    have HB5 := Aside0.mk (below_drew HB4.out)
    have hc3 : 1 ≤ c3 := by omega
    have hc4 : 1 ≤ c4 := by omega
    clear HR34 HR4 HB4 x3
    refine start_ (n := 9) (S := fun _ => True) (ds := []) #[false, false, false, false, false, false, false, false, false] (by kernel_rfl) rfl rfl trivial (fun hHeld => ?_)
    refine with_tabW tabR8 bitsR8 (fun HT_ HW_ => ?_)
    generalize World.drew _ = w5 at T3 T4 HB5 ⊢
    refine pure_ (i := 0) (N := some 80) (v := ?_) (a' := ?_) #[true, false, false, false, false, false, false, false, false] rfl rfl (any_of HT_.out (by kernel_rfl)) (fun _ _ _ h => h) (Or.inl ⟨by rfl, ?_⟩) ?_ ?_
    rotate_left
    · intro w'
      go_simp
      with_reducible rfl
    rotate_left
    · simp only [Act.put, List.setIfInBounds_toArray, List.set_cons_zero, List.set_cons_succ, i64_w, i32_w]
      rfl
    refine pure_ (i := 1) (N := some 81) (v := ?_) (a' := ?_) #[true, true, false, false, false, false, false, false, false] rfl rfl (any_of HT_.out (by kernel_rfl)) (fun _ _ _ h => h) (Or.inl ⟨by rfl, ?_⟩) ?_ ?_
    rotate_left
    · intro w'
      go_simp
      with_reducible rfl
    rotate_left
    · simp only [Act.put, List.setIfInBounds_toArray, List.set_cons_zero, List.set_cons_succ, i64_w, i32_w]
      rfl
    refine pure_ (i := 2) (N := some 82) (v := ?_) (a' := ?_) #[true, true, true, false, false, false, false, false, false] rfl rfl (any_of HT_.out (by kernel_rfl)) (fun _ _ _ h => h) (Or.inl ⟨by rfl, ?_⟩) ?_ ?_
    rotate_left
    · intro w'
      go_simp
      with_reducible rfl
    rotate_left
    · simp only [Act.put, List.setIfInBounds_toArray, List.set_cons_zero, List.set_cons_succ, i64_w, i32_w]
      rfl
    refine pure_ (i := 3) (N := some 83) (v := ?_) (a' := ?_) #[true, true, true, true, false, false, false, false, false] rfl rfl (any_of HT_.out (by kernel_rfl)) (fun _ _ _ h => h) (Or.inl ⟨by rfl, ?_⟩) ?_ ?_
    rotate_left
    · intro w'
      go_simp
      with_reducible rfl
    rotate_left
    · simp only [Act.put, List.setIfInBounds_toArray, List.set_cons_zero, List.set_cons_succ, i64_w, i32_w]
      rfl
    refine one_ (i := 4) (N := some 84) #[true, true, true, true, true, false, false, false, false] rfl rfl (one_of HT_.out (by kernel_rfl)) (by decide) (fun K hK => ?_)
    refine goes_ Tryd.func11 (by kernel_rfl) rfl #[.slice (some ad3) 1 c3, .slice A4 1 c4] (by rfl) rfl rfl (by first | rfl | (simp only [List.map_toArray, List.map_cons, List.map_nil]; done) | (simp only [List.map_toArray, List.map_cons, List.map_nil]; rfl)) ?_
    refine (same_any (some ad3) A4 c3 c4 [X] _ T3.out T4.out hc3 hc4).mono ?_
    rintro e w6 ⟨rfl, hb⟩
    have HB6 := Aside0.mk (below_then HB5.out HB5.out.size hb)
    clear hb HB5 T3 T4
    refine ⟨_, rfl, ?_⟩
    refine hK.out _ _ trivial (fun hHeld => ?_)
    clear hK K
    refine norm_ (a' := ?_) ?_ ?_
    rotate_left
    · show Act.put _ (some 84) _ = _
      simp only [Act.put, List.setIfInBounds_toArray, List.set_cons_zero, List.set_cons_succ, i64_w, i32_w]
      rfl
    refine pure_ (i := 5) (N := some 85) (v := ?_) (a' := ?_) #[true, true, true, true, true, true, false, false, false] rfl rfl (any_of HT_.out (by kernel_rfl)) (fun _ _ _ h => h) (Or.inl ⟨by rfl, ?_⟩) ?_ ?_
    rotate_left
    · intro w'
      go_simp
      with_reducible rfl
    rotate_left
    · simp only [Act.put, List.setIfInBounds_toArray, List.set_cons_zero, List.set_cons_succ, i64_w, i32_w]
      rfl
    refine one_ (i := 6) (N := some 86) #[true, true, true, true, true, true, true, false, false] rfl rfl (one_of HT_.out (by kernel_rfl)) (by decide) (fun K hK => ?_)
    refine goes_ Tryd.func13 (by kernel_rfl) rfl #[] (by rfl) rfl rfl (by first | rfl | (simp only [List.map_toArray, List.map_cons, List.map_nil]; done) | (simp only [List.map_toArray, List.map_cons, List.map_nil]; rfl)) ?_
    refine (awake_any _).mono ?_
    rintro e w7 ⟨rfl, hb⟩
    have HB7 := Aside0.mk (below_then HB6.out HB6.out.size hb)
    clear hb HB6
    refine ⟨_, rfl, ?_⟩
    refine hK.out _ _ trivial (fun hHeld => ?_)
    clear hK K
    refine norm_ (a' := ?_) ?_ ?_
    rotate_left
    · show Act.put _ (some 86) _ = _
      simp only [Act.put, List.setIfInBounds_toArray, List.set_cons_zero, List.set_cons_succ, i64_w, i32_w]
      rfl
    refine pure_ (i := 7) (N := some 87) (v := ?_) (a' := ?_) #[true, true, true, true, true, true, true, true, false] rfl rfl (any_of HT_.out (by kernel_rfl)) (fun _ _ _ h => h) (Or.inl ⟨by rfl, ?_⟩) ?_ ?_
    rotate_left
    · intro w'
      go_simp
      with_reducible rfl
    rotate_left
    · simp only [Act.put, List.setIfInBounds_toArray, List.set_cons_zero, List.set_cons_succ, i64_w, i32_w]
      rfl
    refine one_ (i := 8) (N := some 10) #[true, true, true, true, true, true, true, true, true] rfl rfl (one_of HT_.out (by kernel_rfl)) (by decide) (fun K hK => ?_)
    refine value_ (w1 := ?_) (v := ?_) (by rfl) rfl ?_ ?_
    rotate_left 2
    · go_simp
      try (constructor
           · rfl
           · rfl)
    refine hK.out _ _ trivial (fun hHeld => ?_)
    clear hK K
    refine norm_ (a' := ?_) ?_ ?_
    rotate_left
    · show Act.put _ (some 10) _ = _
      simp only [Act.put, List.setIfInBounds_toArray, List.set_cons_zero, List.set_cons_succ, i64_w, i32_w]
      rfl
    refine done_ (done_of HT_.out (by kernel_rfl)) ?_
    clear HT_ HW_
    go_wp2
    go_ret
    exact ⟨rfl, HB7.out⟩

set_option maxRecDepth 100000 in
set_option maxHeartbeats 400000 in
theorem round_near (k n a b c : Int) (k0 : 0 ≤ k) (k1 : k ≤ 255) (n0 : 0 ≤ n) (n1 : n ≤ 255) (a0 : 0 ≤ a) (a1 : a ≤ 255) (b0 : 0 ≤ b) (b1 : b ≤ 255) (c0 : 0 ≤ c) (c1 : c ≤ 255)
    (hk : 1 ≤ k % 9 ∧ k % 9 ≤ 3) (z : World) :
    Calls Tryd.prog 8 #[.int .u8 k, .int .u8 n, .int .u8 a, .int .u8 b, .int .u8 c] z fun e w' => e = .returned (.bool true) ∧ Below z.heap.size z w' := by
  obtain ⟨hk1, hk3⟩ := hk
  go_enter Tryd.func8, Tryd.ntmps8
  go_wp2_with fail

  all_goals
    refine (decode_any _ 5 5 [k % 9, n % 5, a, b, c] _ (reads_blk (k := .u8) (xs := [k % 9, n % 5, a, b, c]) (blk_alloc (blk_new _ _) _) (by simp)) (by decide) (by decide) (fun _ ad e => by injection e with e; subst e; simp; omega) (bs5 (by omega) (by omega) ⟨a0, a1⟩ ⟨b0, b1⟩ ⟨c0, c1⟩)).mono ?_
    rintro e w3 ⟨v, rfl, hra, hb⟩
    obtain ⟨P, hP, hPl⟩ := dec_head [k % 9, n % 5, a, b, c] (by simp)
    rw [hP] at hra
    obtain ⟨A3, c3, rfl, hl3, hr3⟩ := Kd.R_reads hra
    have HR3 := Aside0.mk hr3
    have hl3' : P.length + 1 ≤ c3 := hl3
    have HB3 := Aside0.mk hb
    clear hra hr3 hb hl3 hP
    go_wp2_with fail
    refine (decode_any _ 5 5 [k % 9 + 9 * (k / 16 % 20), n % 5, a, b, c] _ (reads_blk (k := .u8) (xs := [k % 9 + 9 * (k / 16 % 20), n % 5, a, b, c]) (blk_below (blk_new2 z _ _) HB3.out) (by simp)) (by decide) (by decide) (fun _ ad e => by injection e with e; subst e; have := HB3.out.size; simp at this ⊢; omega) (bs5 ⟨(u8_round k k0 k1).2.1, (u8_round k k0 k1).2.2⟩ (by omega) ⟨a0, a1⟩ ⟨b0, b1⟩ ⟨c0, c1⟩)).mono ?_
    rintro e w4 ⟨v, rfl, hra, hb⟩
    obtain ⟨Q, hQ, hQl⟩ := dec_head [k % 9 + 9 * (k / 16 % 20), n % 5, a, b, c] (by simp)
    rw [hQ, act_round (k % 9) _ (n % 5) _ [a, b, c] (by have := (u8_round k k0 k1).1; omega) (.inl rfl)] at hra
    obtain ⟨A4, c4, rfl, hl4, hr4⟩ := Kd.R_reads hra
    have hl4' : Q.length + 1 ≤ c4 := hl4
    have HR4 := Aside0.mk hr4
    have HR34 := Aside0.mk (Kd.C_below HR3.out hb)
    have HB4 := Aside0.mk (below_then (below_alloc (below_alloc (Below.refl z.heap.size z) _) _) (below_alloc (below_alloc (Below.refl z.heap.size z) _) _).size (below_then HB3.out HB3.out.size hb))
    clear hra hr4 hb hl4 hQ HR3 HB3
    have hq0 : ((P.length : Int) + 1 == 0) = false := beq_eq_false_iff_ne.2 (by omega)
    have hq1 : ((Q.length : Int) + 1 == 0) = false := beq_eq_false_iff_ne.2 (by omega)
    obtain ⟨ad3, rfl, x3⟩ := first_cell HR34.out (by simp)
    rw [act_kind, hd_cons, show 1 + k % 9 % 9 = k % 9 + 1 by omega] at x3
    generalize actOf [k % 9, n % 5, a, b, c] = X at *
    go_wp2_with fail
    have kl3 := fun W => take_one (some ad3) (P.length + 1) c3 (by omega) W
    have kl4 := fun W => take_one A4 (Q.length + 1) c4 (by omega) W
    have T3 : Aside0 (Kd.C k26 w4.drew (some ad3) 1 [X]) := ⟨Kd.C_below (Kd.C_take HR34.out (m := 1) (by simp)) (below_drew (Below.refl _ _))⟩
    have T4 : Aside0 (Kd.C k26 w4.drew A4 1 [X]) := ⟨Kd.C_below (Kd.C_take HR4.out (m := 1) (by simp)) (below_drew (Below.refl _ _))⟩
    have HB5 := Aside0.mk (below_drew HB4.out)
    have hc3 : 1 ≤ c3 := by omega
    have hc4 : 1 ≤ c4 := by omega
    clear HR34 HR4 HB4 x3
    refine start_ (n := 9) (S := fun _ => True) (ds := []) #[false, false, false, false, false, false, false, false, false] (by kernel_rfl) rfl rfl trivial (fun hHeld => ?_)
    refine with_tabW tabR8 bitsR8 (fun HT_ HW_ => ?_)
    generalize World.drew _ = w5 at T3 T4 HB5 ⊢
    refine pure_ (i := 0) (N := some 80) (v := ?_) (a' := ?_) #[true, false, false, false, false, false, false, false, false] rfl rfl (any_of HT_.out (by kernel_rfl)) (fun _ _ _ h => h) (Or.inl ⟨by rfl, ?_⟩) ?_ ?_
    rotate_left
    · intro w'
      go_simp
      with_reducible rfl
    rotate_left
    · simp only [Act.put, List.setIfInBounds_toArray, List.set_cons_zero, List.set_cons_succ, i64_w, i32_w]
      rfl
    refine pure_ (i := 1) (N := some 81) (v := ?_) (a' := ?_) #[true, true, false, false, false, false, false, false, false] rfl rfl (any_of HT_.out (by kernel_rfl)) (fun _ _ _ h => h) (Or.inl ⟨by rfl, ?_⟩) ?_ ?_
    rotate_left
    · intro w'
      go_simp
      with_reducible rfl
    rotate_left
    · simp only [Act.put, List.setIfInBounds_toArray, List.set_cons_zero, List.set_cons_succ, i64_w, i32_w]
      rfl
    refine pure_ (i := 2) (N := some 82) (v := ?_) (a' := ?_) #[true, true, true, false, false, false, false, false, false] rfl rfl (any_of HT_.out (by kernel_rfl)) (fun _ _ _ h => h) (Or.inl ⟨by rfl, ?_⟩) ?_ ?_
    rotate_left
    · intro w'
      go_simp
      with_reducible rfl
    rotate_left
    · simp only [Act.put, List.setIfInBounds_toArray, List.set_cons_zero, List.set_cons_succ, i64_w, i32_w]
      rfl
    refine pure_ (i := 3) (N := some 83) (v := ?_) (a' := ?_) #[true, true, true, true, false, false, false, false, false] rfl rfl (any_of HT_.out (by kernel_rfl)) (fun _ _ _ h => h) (Or.inl ⟨by rfl, ?_⟩) ?_ ?_
    rotate_left
    · intro w'
      go_simp
      with_reducible rfl
    rotate_left
    · simp only [Act.put, List.setIfInBounds_toArray, List.set_cons_zero, List.set_cons_succ, i64_w, i32_w]
      rfl
    refine one_ (i := 4) (N := some 84) #[true, true, true, true, true, false, false, false, false] rfl rfl (one_of HT_.out (by kernel_rfl)) (by decide) (fun K hK => ?_)
    refine goes_ Tryd.func11 (by kernel_rfl) rfl #[.slice (some ad3) 1 c3, .slice A4 1 c4] (by rfl) rfl rfl (by first | rfl | (simp only [List.map_toArray, List.map_cons, List.map_nil]; done) | (simp only [List.map_toArray, List.map_cons, List.map_nil]; rfl)) ?_
    refine (same_any (some ad3) A4 c3 c4 [X] _ T3.out T4.out hc3 hc4).mono ?_
    rintro e w6 ⟨rfl, hb⟩
    have HB6 := Aside0.mk (below_then HB5.out HB5.out.size hb)
    clear hb HB5 T3 T4
    refine ⟨_, rfl, ?_⟩
    refine hK.out _ _ trivial (fun hHeld => ?_)
    clear hK K
    refine norm_ (a' := ?_) ?_ ?_
    rotate_left
    · show Act.put _ (some 84) _ = _
      simp only [Act.put, List.setIfInBounds_toArray, List.set_cons_zero, List.set_cons_succ, i64_w, i32_w]
      rfl
    refine pure_ (i := 5) (N := some 85) (v := ?_) (a' := ?_) #[true, true, true, true, true, true, false, false, false] rfl rfl (any_of HT_.out (by kernel_rfl)) (fun _ _ _ h => h) (Or.inl ⟨by rfl, ?_⟩) ?_ ?_
    rotate_left
    · intro w'
      go_simp
      with_reducible rfl
    rotate_left
    · simp only [Act.put, List.setIfInBounds_toArray, List.set_cons_zero, List.set_cons_succ, i64_w, i32_w]
      rfl
    refine one_ (i := 6) (N := some 86) #[true, true, true, true, true, true, true, false, false] rfl rfl (one_of HT_.out (by kernel_rfl)) (by decide) (fun K hK => ?_)
    refine goes_ Tryd.func13 (by kernel_rfl) rfl #[] (by rfl) rfl rfl (by first | rfl | (simp only [List.map_toArray, List.map_cons, List.map_nil]; done) | (simp only [List.map_toArray, List.map_cons, List.map_nil]; rfl)) ?_
    refine (awake_any _).mono ?_
    rintro e w7 ⟨rfl, hb⟩
    have HB7 := Aside0.mk (below_then HB6.out HB6.out.size hb)
    clear hb HB6
    refine ⟨_, rfl, ?_⟩
    refine hK.out _ _ trivial (fun hHeld => ?_)
    clear hK K
    refine norm_ (a' := ?_) ?_ ?_
    rotate_left
    · show Act.put _ (some 86) _ = _
      simp only [Act.put, List.setIfInBounds_toArray, List.set_cons_zero, List.set_cons_succ, i64_w, i32_w]
      rfl
    refine pure_ (i := 7) (N := some 87) (v := ?_) (a' := ?_) #[true, true, true, true, true, true, true, true, false] rfl rfl (any_of HT_.out (by kernel_rfl)) (fun _ _ _ h => h) (Or.inl ⟨by rfl, ?_⟩) ?_ ?_
    rotate_left
    · intro w'
      go_simp
      with_reducible rfl
    rotate_left
    · simp only [Act.put, List.setIfInBounds_toArray, List.set_cons_zero, List.set_cons_succ, i64_w, i32_w]
      rfl
    refine one_ (i := 8) (N := some 10) #[true, true, true, true, true, true, true, true, true] rfl rfl (one_of HT_.out (by kernel_rfl)) (by decide) (fun K hK => ?_)
    refine value_ (w1 := ?_) (v := ?_) (by rfl) rfl ?_ ?_
    rotate_left 2
    · go_simp
      try (constructor
           · rfl
           · rfl)
    refine hK.out _ _ trivial (fun hHeld => ?_)
    clear hK K
    refine norm_ (a' := ?_) ?_ ?_
    rotate_left
    · show Act.put _ (some 10) _ = _
      simp only [Act.put, List.setIfInBounds_toArray, List.set_cons_zero, List.set_cons_succ, i64_w, i32_w]
      rfl
    refine done_ (done_of HT_.out (by kernel_rfl)) ?_
    clear HT_ HW_
    go_wp2
    go_ret
    exact ⟨rfl, HB7.out⟩

set_option maxRecDepth 100000 in
set_option maxHeartbeats 400000 in
theorem round_eight (k n a b c : Int) (k0 : 0 ≤ k) (k1 : k ≤ 255) (n0 : 0 ≤ n) (n1 : n ≤ 255) (a0 : 0 ≤ a) (a1 : a ≤ 255) (b0 : 0 ≤ b) (b1 : b ≤ 255) (c0 : 0 ≤ c) (c1 : c ≤ 255)
    (hk : k % 9 = 8) (z : World) :
    Calls Tryd.prog 8 #[.int .u8 k, .int .u8 n, .int .u8 a, .int .u8 b, .int .u8 c] z fun e w' => e = .returned (.bool true) ∧ Below z.heap.size z w' := by
  have hk1 : ¬ (k % 9 ≤ 3) := by omega
  have hk2 : 3 < k % 9 := by omega
  have hk8 : (k % 9 == 8) = true := beq_iff_eq.2 hk
  have HK := Aside0.mk hk
  clear hk
  go_enter Tryd.func8, Tryd.ntmps8
  go_wp2_with fail

  all_goals
    refine (decode_any _ 5 5 [k % 9, n % 5, a, b, c] _ (reads_blk (k := .u8) (xs := [k % 9, n % 5, a, b, c]) (blk_alloc (blk_new _ _) _) (by simp)) (by decide) (by decide) (fun _ ad e => by injection e with e; subst e; simp; omega) (bs5 (by omega) (by omega) ⟨a0, a1⟩ ⟨b0, b1⟩ ⟨c0, c1⟩)).mono ?_
    rintro e w3 ⟨v, rfl, hra, hb⟩
    obtain ⟨P, hP, hPl⟩ := dec_head [k % 9, n % 5, a, b, c] (by simp)
    rw [hP] at hra
    obtain ⟨A3, c3, rfl, hl3, hr3⟩ := Kd.R_reads hra
    have HR3 := Aside0.mk hr3
    have hl3' : P.length + 1 ≤ c3 := hl3
    have HB3 := Aside0.mk hb
    clear hra hr3 hb hl3 hP
    go_wp2_with fail
    refine (decode_any _ 5 5 [k % 9 + 9 * (k / 16 % 20), n % 5, a, b, c] _ (reads_blk (k := .u8) (xs := [k % 9 + 9 * (k / 16 % 20), n % 5, a, b, c]) (blk_below (blk_new2 z _ _) HB3.out) (by simp)) (by decide) (by decide) (fun _ ad e => by injection e with e; subst e; have := HB3.out.size; simp at this ⊢; omega) (bs5 ⟨(u8_round k k0 k1).2.1, (u8_round k k0 k1).2.2⟩ (by omega) ⟨a0, a1⟩ ⟨b0, b1⟩ ⟨c0, c1⟩)).mono ?_
    rintro e w4 ⟨v, rfl, hra, hb⟩
    obtain ⟨Q, hQ, hQl⟩ := dec_head [k % 9 + 9 * (k / 16 % 20), n % 5, a, b, c] (by simp)
    rw [hQ, act_round (k % 9) _ (n % 5) _ [a, b, c] (by have := (u8_round k k0 k1).1; omega) (.inl rfl)] at hra
    obtain ⟨A4, c4, rfl, hl4, hr4⟩ := Kd.R_reads hra
    have hl4' : Q.length + 1 ≤ c4 := hl4
    have HR4 := Aside0.mk hr4
    have HR34 := Aside0.mk (Kd.C_below HR3.out hb)
    have HB4 := Aside0.mk (below_then (below_alloc (below_alloc (Below.refl z.heap.size z) _) _) (below_alloc (below_alloc (Below.refl z.heap.size z) _) _).size (below_then HB3.out HB3.out.size hb))
    clear hra hr4 hb hl4 hQ HR3 HB3
    have hq0 : ((P.length : Int) + 1 == 0) = false := beq_eq_false_iff_ne.2 (by omega)
    have hq1 : ((Q.length : Int) + 1 == 0) = false := beq_eq_false_iff_ne.2 (by omega)
    obtain ⟨ad3, rfl, x3⟩ := first_cell HR34.out (by simp)
    rw [act_kind, hd_cons, show 1 + k % 9 % 9 = k % 9 + 1 by omega] at x3
    generalize actOf [k % 9, n % 5, a, b, c] = X at *
    go_wp2_with fail
    have kl3 := fun W => take_one (some ad3) (P.length + 1) c3 (by omega) W
    have kl4 := fun W => take_one A4 (Q.length + 1) c4 (by omega) W
    have T3 : Aside0 (Kd.C k26 w4.drew (some ad3) 1 [X]) := ⟨Kd.C_below (Kd.C_take HR34.out (m := 1) (by simp)) (below_drew (Below.refl _ _))⟩
    have T4 : Aside0 (Kd.C k26 w4.drew A4 1 [X]) := ⟨Kd.C_below (Kd.C_take HR4.out (m := 1) (by simp)) (below_drew (Below.refl _ _))⟩
    have HB5 := Aside0.mk (below_drew HB4.out)
    have hc3 : 1 ≤ c3 := by omega
    have hc4 : 1 ≤ c4 := by omega
    clear HR34 HR4 HB4 x3
    refine start_ (n := 9) (S := fun _ => True) (ds := []) #[false, false, false, false, false, false, false, false, false] (by kernel_rfl) rfl rfl trivial (fun hHeld => ?_)
    refine with_tabW tabR8 bitsR8 (fun HT_ HW_ => ?_)
    generalize World.drew _ = w5 at T3 T4 HB5 ⊢
    refine pure_ (i := 0) (N := some 80) (v := ?_) (a' := ?_) #[true, false, false, false, false, false, false, false, false] rfl rfl (any_of HT_.out (by kernel_rfl)) (fun _ _ _ h => h) (Or.inl ⟨by rfl, ?_⟩) ?_ ?_
    rotate_left
    · intro w'
      go_simp
      with_reducible rfl
    rotate_left
    · simp only [Act.put, List.setIfInBounds_toArray, List.set_cons_zero, List.set_cons_succ, i64_w, i32_w]
      rfl
    refine pure_ (i := 1) (N := some 81) (v := ?_) (a' := ?_) #[true, true, false, false, false, false, false, false, false] rfl rfl (any_of HT_.out (by kernel_rfl)) (fun _ _ _ h => h) (Or.inl ⟨by rfl, ?_⟩) ?_ ?_
    rotate_left
    · intro w'
      go_simp
      with_reducible rfl
    rotate_left
    · simp only [Act.put, List.setIfInBounds_toArray, List.set_cons_zero, List.set_cons_succ, i64_w, i32_w]
      rfl
    refine pure_ (i := 2) (N := some 82) (v := ?_) (a' := ?_) #[true, true, true, false, false, false, false, false, false] rfl rfl (any_of HT_.out (by kernel_rfl)) (fun _ _ _ h => h) (Or.inl ⟨by rfl, ?_⟩) ?_ ?_
    rotate_left
    · intro w'
      go_simp
      with_reducible rfl
    rotate_left
    · simp only [Act.put, List.setIfInBounds_toArray, List.set_cons_zero, List.set_cons_succ, i64_w, i32_w]
      rfl
    refine pure_ (i := 3) (N := some 83) (v := ?_) (a' := ?_) #[true, true, true, true, false, false, false, false, false] rfl rfl (any_of HT_.out (by kernel_rfl)) (fun _ _ _ h => h) (Or.inl ⟨by rfl, ?_⟩) ?_ ?_
    rotate_left
    · intro w'
      go_simp
      with_reducible rfl
    rotate_left
    · simp only [Act.put, List.setIfInBounds_toArray, List.set_cons_zero, List.set_cons_succ, i64_w, i32_w]
      rfl
    refine one_ (i := 4) (N := some 84) #[true, true, true, true, true, false, false, false, false] rfl rfl (one_of HT_.out (by kernel_rfl)) (by decide) (fun K hK => ?_)
    refine goes_ Tryd.func11 (by kernel_rfl) rfl #[.slice (some ad3) 1 c3, .slice A4 1 c4] (by rfl) rfl rfl (by first | rfl | (simp only [List.map_toArray, List.map_cons, List.map_nil]; done) | (simp only [List.map_toArray, List.map_cons, List.map_nil]; rfl)) ?_
    refine (same_any (some ad3) A4 c3 c4 [X] _ T3.out T4.out hc3 hc4).mono ?_
    rintro e w6 ⟨rfl, hb⟩
    have HB6 := Aside0.mk (below_then HB5.out HB5.out.size hb)
    clear hb HB5 T3 T4
    refine ⟨_, rfl, ?_⟩
    refine hK.out _ _ trivial (fun hHeld => ?_)
    clear hK K
    refine norm_ (a' := ?_) ?_ ?_
    rotate_left
    · show Act.put _ (some 84) _ = _
      simp only [Act.put, List.setIfInBounds_toArray, List.set_cons_zero, List.set_cons_succ, i64_w, i32_w]
      rfl
    refine pure_ (i := 5) (N := some 85) (v := ?_) (a' := ?_) #[true, true, true, true, true, true, false, false, false] rfl rfl (any_of HT_.out (by kernel_rfl)) (fun _ _ _ h => h) (Or.inl ⟨by rfl, ?_⟩) ?_ ?_
    rotate_left
    · intro w'
      go_simp
      with_reducible rfl
    rotate_left
    · simp only [Act.put, List.setIfInBounds_toArray, List.set_cons_zero, List.set_cons_succ, i64_w, i32_w]
      rfl
    refine one_ (i := 6) (N := some 86) #[true, true, true, true, true, true, true, false, false] rfl rfl (one_of HT_.out (by kernel_rfl)) (by decide) (fun K hK => ?_)
    refine goes_ Tryd.func13 (by kernel_rfl) rfl #[] (by rfl) rfl rfl (by first | rfl | (simp only [List.map_toArray, List.map_cons, List.map_nil]; done) | (simp only [List.map_toArray, List.map_cons, List.map_nil]; rfl)) ?_
    refine (awake_any _).mono ?_
    rintro e w7 ⟨rfl, hb⟩
    have HB7 := Aside0.mk (below_then HB6.out HB6.out.size hb)
    clear hb HB6
    refine ⟨_, rfl, ?_⟩
    refine hK.out _ _ trivial (fun hHeld => ?_)
    clear hK K
    refine norm_ (a' := ?_) ?_ ?_
    rotate_left
    · show Act.put _ (some 86) _ = _
      simp only [Act.put, List.setIfInBounds_toArray, List.set_cons_zero, List.set_cons_succ, i64_w, i32_w]
      rfl
    refine pure_ (i := 7) (N := some 87) (v := ?_) (a' := ?_) #[true, true, true, true, true, true, true, true, false] rfl rfl (any_of HT_.out (by kernel_rfl)) (fun _ _ _ h => h) (Or.inl ⟨by rfl, ?_⟩) ?_ ?_
    rotate_left
    · intro w'
      go_simp
      with_reducible rfl
    rotate_left
    · simp only [Act.put, List.setIfInBounds_toArray, List.set_cons_zero, List.set_cons_succ, i64_w, i32_w]
      rfl
    refine one_ (i := 8) (N := some 10) #[true, true, true, true, true, true, true, true, true] rfl rfl (one_of HT_.out (by kernel_rfl)) (by decide) (fun K hK => ?_)
    refine value_ (w1 := ?_) (v := ?_) (by rfl) rfl ?_ ?_
    rotate_left 2
    · go_simp
      try (constructor
           · rfl
           · rfl)
    refine hK.out _ _ trivial (fun hHeld => ?_)
    clear hK K
    refine norm_ (a' := ?_) ?_ ?_
    rotate_left
    · show Act.put _ (some 10) _ = _
      simp only [Act.put, List.setIfInBounds_toArray, List.set_cons_zero, List.set_cons_succ, i64_w, i32_w]
      rfl
    refine done_ (done_of HT_.out (by kernel_rfl)) ?_
    clear HT_ HW_
    go_wp2
    go_ret
    exact ⟨rfl, HB7.out⟩

theorem round_walk (k n a b c : Int) (k0 : 0 ≤ k) (k1 : k ≤ 255) (n0 : 0 ≤ n) (n1 : n ≤ 255) (a0 : 0 ≤ a) (a1 : a ≤ 255) (b0 : 0 ≤ b) (b1 : b ≤ 255) (c0 : 0 ≤ c) (c1 : c ≤ 255) (z : World) :
    Calls Tryd.prog 8 #[.int .u8 k, .int .u8 n, .int .u8 a, .int .u8 b, .int .u8 c] z fun e w' => e = .returned (.bool true) ∧ Below z.heap.size z w' := by
  by_cases hk : 1 ≤ k % 9 ∧ k % 9 ≤ 3
  · exact round_near k n a b c k0 k1 n0 n1 a0 a1 b0 b1 c0 c1 hk z
  · by_cases hk8 : k % 9 = 8
    · exact round_eight k n a b c k0 k1 n0 n1 a0 a1 b0 b1 c0 c1 hk8 z
    · exact round_far k n a b c k0 k1 n0 n1 a0 a1 b0 b1 c0 c1 hk (beq_eq_false_iff_ne.2 hk8) z
theorem round_pairs (k : Int) (hk : 0 ≤ k ∧ k ≤ 255) (n : Int) (hn : 0 ≤ n ∧ n ≤ 255) (a : Int) (ha : 0 ≤ a ∧ a ≤ 255) (b : Int) (hb : 0 ≤ b ∧ b ≤ 255) (c : Int) (hc : 0 ≤ c ∧ c ≤ 255) (z : World) :
    Calls Tryd.prog 8 #[.int .u8 k, .int .u8 n, .int .u8 a, .int .u8 b, .int .u8 c] z fun e w' => e = .returned (.bool true) ∧ Below z.heap.size z w' :=
  round_walk k n a b c hk.1 hk.2 hn.1 hn.2 ha.1 ha.2 hb.1 hb.2 hc.1 hc.2 z
#print axioms round_pairs
end Go.Proofs.YtahfcdlggaoakaaDoor.Rd

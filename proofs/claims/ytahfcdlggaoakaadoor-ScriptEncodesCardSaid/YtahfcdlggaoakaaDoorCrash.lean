/- (*reader).crash: it returns the pairs of bytes that the first byte counts, and the reader stands behind them. Conditions: none. -/
import Derived.Test.YtahfcdlggaoakaaDoorCs
namespace Go.Proofs.YtahfcdlggaoakaaDoor.Rd
open Go.RowKit Go.Proofs.YtahfcdlggaoakaaDoorW.PrintWords Go.Proofs.YtahfcdlggaoakaaDoorW.PrintLast Go.Proofs.YtahfcdlggaoakaaDoorW.PrintMore
open Go.Proofs.YtahfcdlggaoakaaDoor.PScriptDecodes

/-- n pairs: what is kept, what is torn, what is left. -/
def pairs : Nat → List Int → List Int × List Int × List Int
  | 0, xs => ([], [], xs)
  | n + 1, xs => ((pairs n xs).1 ++ [hd (pairs n xs).2.2], (pairs n xs).2.1 ++ [hd (tl (pairs n xs).2.2)], tl (tl (pairs n xs).2.2))
theorem pairs_len (n : Nat) (xs : List Int) : (pairs n xs).1.length = n ∧ (pairs n xs).2.1.length = n := by
  induction n with
  | zero => exact ⟨rfl, rfl⟩
  | succ n ih => simp [pairs, ih.1, ih.2]

def CrashPost (z : World) (B g : Nat) (xs : List Int) (e : Ending) (w' : World) : Prop :=
  ∃ v0 v1 : Value, e = .returned (.agg #[v0, v1]) ∧ RI w' z.heap.size (fun k => some k ≠ v1.ownBlock) v0 (pairs (hd xs % 8).toNat (tl xs)).1 ∧ RI w' z.heap.size (fun k => some k ≠ v0.ownBlock) v1 (pairs (hd xs % 8).toNat (tl xs)).2.1 ∧
    Rd w' B g (pairs (hd xs % 8).toNat (tl xs)).2.2 ∧ z.grownBy w' (some g)

def T0 : Bool × List (List Nat × List Nat) := (true, [([], []), ([0], [0]), ([], []), ([2], [2]), ([3], [3]), ([1, 4, 3], [1, 4]), ([0, 1, 2, 3, 4, 5], []), ([6, 5, 5, 0, 1, 2, 3, 4, 5], [5, 6])])
def B0 : List Nat := [0, 1, 0, 4, 12, 31, 63, 127]
theorem tab0 : rtab .any (opsOf Tryd.f34 3) = T0 := by kernel_rfl
theorem bits0 : waitsOk T0.2 B0 = true := by kernel_rfl
def T1 : Bool × List (List Nat × List Nat) := (true, [([], []), ([0], [0]), ([], []), ([2], [2]), ([3], [3]), ([1, 4, 3], [1, 4]), ([0, 1, 2, 3, 4, 5], []), ([6, 5, 5, 0, 1, 2, 3, 4, 5], [5, 6])])
def B1 : List Nat := [0, 1, 0, 4, 12, 31, 63, 127]
theorem tab1 : rtab .any (opsOf Tryd.f34 4) = T1 := by kernel_rfl
theorem bits1 : waitsOk T1.2 B1 = true := by kernel_rfl

set_option linter.unusedSimpArgs false
set_option linter.unusedVariables false
set_option maxHeartbeats 4000000 in
theorem crash_any (B g : Nat) (xs : List Int) (z : World) (h : Rd z B g xs) :
    Calls Tryd.prog 34 #[.pointer (some ⟨g, 0, none⟩)] z (CrashPost z B g xs) := by
  have hu24 := Tryd.underlying24
  obtain ⟨p0, p1⟩ := head_byte h.byte
  unfold CrashPost
  obtain ⟨F, hF⟩ : ∃ F, F = tl xs := ⟨_, rfl⟩
  obtain ⟨KS, TS, RS, hP⟩ : ∃ KS TS RS, pairs (hd xs % 8).toNat (tl xs) = (KS, TS, RS) := ⟨_, _, _, rfl⟩
  simp only [hP]
  rw [← hF] at hP
  have HP0 := Aside0.mk hP
  clear hP
  go_enter Tryd.func34, Tryd.ntmps34
  go_wp2_with fail
  refine (byte_any B g xs _ (h.below (below_alloc (Below.refl _ _) _))).mono ?_
  rintro e w1 ⟨rfl, h1, g1⟩
  rw [← hF] at h1
  clear hF
  have hm : (hd xs).tmod 8 = hd xs % 8 := Int.tmod_eq_emod_of_nonneg p0
  have H0 : Aside0 (CS z w1 B g z.heap.size F (.slice none 0 0) (.slice none 0 0) [] []) := ⟨⟨h1, blk_grown (blk_new _ _) g1 (by have := h.lt; intro e; injection e; omega), Kd.R_nil _ _ _ _ _, Kd.R_nil _ _ _ _ _, grown_trans (gr_alloc (grown_refl _ _) _) g1, h.lt, Nat.le_refl _⟩⟩
  generalize hd xs = p at *
  obtain ⟨n, hn, hn8⟩ : ∃ n : Nat, p.tmod 8 = (n : Int) ∧ n ≤ 7 := ⟨(p % 8).toNat, by omega, by omega⟩
  have hpn : (p % 8).toNat = n := by omega
  rw [hpn] at HP0
  have hn2 : p % 8 = (n : Int) := by omega
  clear h1 g1 hm hpn h
  go_wp2
  go_loopg [6] n (fun kq v6 wr => ∃ (j : Nat) (rs : List Int) (u0 u1 : Value) (ks ts : List Int), v6 = .int .i64 (j : Int) ∧ j + kq = n ∧ Aside0 (pairs j F = (ks, ts, rs)) ∧ Aside0 (CS z wr B g z.heap.size rs u0 u1 ks ts))
  case atStart => exact ⟨0, F, .slice none 0 0, .slice none 0 0, [], [], rfl, by omega, ⟨rfl⟩, H0⟩
  case round =>
    obtain ⟨j, rs, u0, u1, ks, ts, rfl, hjk, HP, H⟩ := hrel
    have hln := pairs_len j F
    rw [HP.out] at hln
    have HL0 := Aside0.mk hln.1
    have HL1 := Aside0.mk hln.2
    clear hln
    by_cases hlt : j < n
    · have c6b0 : decide ((j : Int) < (n : Int)) = true := decide_eq_true (by omega)
      have hn' := Aside0.mk hn
      clear hn
      go_wp2
      refine start_ (n := 8) (S := fun w' => w'.cell? ⟨z.heap.size, 0, none⟩ = some u0 ∧ w'.cell? ⟨z.heap.size, 1, none⟩ = some u1) (ds := [7]) #[false, false, false, false, false, false, false, false] (by kernel_rfl) rfl rfl ⟨(blk_cell H.out.blk 0).trans rfl, (blk_cell H.out.blk 1).trans rfl⟩ (fun hHeld => ?_); refine with_tabW tab0 bits0 (fun HT_ HW_ => ?_)
      have n0_ := Aside0.mk H.out.drew
      clear H
      have H := n0_
      clear n0_
      generalize World.drew _ = wd0 at H hHeld ⊢
      refine pure_ (i := 0) (N := some 8) (v := ?_) (a' := ?_) #[true, false, false, false, false, false, false, false] rfl rfl (any_of HT_.out (by kernel_rfl)) (fun _ _ _ h => h) (Or.inl ⟨by rfl, ?_⟩) ?_ ?_
      rotate_left
      · intro w'
        go_simp
        with_reducible rfl
      rotate_left
      · simp only [Act.put, List.setIfInBounds_toArray, List.set_cons_zero, List.set_cons_succ, i64_w, i32_w]
        rfl
      refine pure_ (i := 2) (N := some 10) (v := ?_) (a' := ?_) #[true, false, true, false, false, false, false, false] rfl rfl (any_of HT_.out (by kernel_rfl)) (fun _ _ _ h => h) (Or.inl ⟨by rfl, ?_⟩) ?_ ?_
      rotate_left
      · intro w'
        go_simp
        with_reducible rfl
      rotate_left
      · simp only [Act.put, List.setIfInBounds_toArray, List.set_cons_zero, List.set_cons_succ, i64_w, i32_w]
        rfl
      refine take_ (i := 1) (N := some 9) (v := ?_) (a' := ?_) #[true, true, true, false, false, false, false, false] rfl rfl (take_ofW HT_.out HW_.out (by kernel_rfl)) (fun _ _ _ h => h) (Or.inl ⟨by rfl, ?_⟩) hHeld ?_ ?_
      rotate_left
      · rintro w' ⟨s0, s1⟩
        go_simp
        with_reducible rfl
      rotate_left
      · simp only [Act.put, List.setIfInBounds_toArray, List.set_cons_zero, List.set_cons_succ, i64_w, i32_w]
        rfl
      refine one_ (i := 3) (N := some 11) #[true, true, true, true, false, false, false, false] rfl rfl (one_of HT_.out (by kernel_rfl)) (by decide) (fun K hK => ?_)
      refine goes_ Tryd.func32 (by kernel_rfl) rfl #[.pointer (some ⟨g, 0, none⟩)] (by rfl) rfl rfl (by simp only [List.map_toArray, List.map_cons, List.map_nil]; rfl) ?_
      with_reducible refine (byte_any B g rs _ H.out.rd).mono ?_
      rintro e w1 ⟨rfl, hr1, hg1⟩
      have n0_ := Aside0.mk (H.out.byte hr1 hg1)
      clear H hr1 hg1
      have H := n0_
      clear n0_
      refine ⟨_, rfl, ?_⟩
      refine hK.out _ _ ⟨(blk_cell H.out.blk 0).trans rfl, (blk_cell H.out.blk 1).trans rfl⟩ (fun hHeld => ?_)
      clear hK K
      refine norm_ (a' := ?_) ?_ ?_
      rotate_left
      · show Act.put _ (some 11) _ = _
        simp only [Act.put, List.setIfInBounds_toArray, List.set_cons_zero, List.set_cons_succ, i64_w, i32_w]
        rfl
      refine one_ (i := 4) (N := some 12) #[true, true, true, true, true, false, false, false] rfl rfl (one_of HT_.out (by kernel_rfl)) (by decide) (fun K hK => ?_)
      refine value_ (w1 := ?_) (v := ?_) (by rfl) rfl ?_ ?_
      rotate_left 2
      · go_simp
        constructor
        · rfl
        · rfl
      refine hK.out _ _ ⟨(blk_cell (blk_alloc H.out.blk _) 0).trans rfl, (blk_cell (blk_alloc H.out.blk _) 1).trans rfl⟩ (fun hHeld => ?_)
      clear hK K
      refine norm_ (a' := ?_) ?_ ?_
      rotate_left
      · show Act.put _ (some 12) _ = _
        simp only [Act.put, List.setIfInBounds_toArray, List.set_cons_zero, List.set_cons_succ, i64_w, i32_w]
        rfl
      refine one_ (i := 5) (N := some 13) #[true, true, true, true, true, true, false, false] rfl rfl (one_of HT_.out (by kernel_rfl)) (by decide) (fun K hK => ?_)
      refine Kd.R_append_step (Kd.int .i64) (w0 := w1) z.heap.size (by rfl) (.tmp 9) (.tmp 12) 22 3 (.int .i64 0) 8 rfl Tryd.underlying22 info3 rfl (by decide) (by omega) u0 ks (hd rs) [.int .i64 (hd rs)] (fun k_ => some k_ ≠ (u1 : Value).ownBlock) (fun _ => False) rfl rfl ?aP (fun _ hk => hk.elim) ?aF H.out.kp (Below.refl _ _) H.out.fr.size ?aL ?_
      (case aP => exact rfl)
      (case aF => exact Kd.fresh' (Kd.R_lt H.out.tn))
      (case aL => have := HL0.out; omega)
      intro nv w2 ho hb hg hat
      have bl0 := Aside0.mk (blk_grown H.out.blk hg (fun e_ => (H.out.u0_ne _ e_.symm).2.2 rfl))
      have n0_ := Aside0.mk (H.out.app0 ho hg)
      clear H ho hb hg hat
      have H := n0_
      clear n0_
      refine hK.out _ _ ⟨(blk_cell bl0.out 0).trans rfl, (blk_cell bl0.out 1).trans rfl⟩ (fun hHeld => ?_)
      clear hK K
      refine norm_ (a' := ?_) ?_ ?_
      rotate_left
      · show Act.put _ (some 13) _ = _
        simp only [Act.put, List.setIfInBounds_toArray, List.set_cons_zero, List.set_cons_succ, i64_w, i32_w]
        rfl
      refine pure_ (i := 6) (N := some 14) (v := ?_) (a' := ?_) #[true, true, true, true, true, true, true, false] rfl rfl (any_of HT_.out (by kernel_rfl)) (fun _ _ _ h => h) (Or.inl ⟨by rfl, ?_⟩) ?_ ?_
      rotate_left
      · intro w'
        go_simp
        with_reducible rfl
      rotate_left
      · simp only [Act.put, List.setIfInBounds_toArray, List.set_cons_zero, List.set_cons_succ, i64_w, i32_w]
        rfl
      refine last_ (i := 7) (N := none) #[true, true, true, true, true, true, true, true] rfl rfl (one_of HT_.out (by kernel_rfl)) (by decide) (fun K hK => ?_)
      have hs0 : w2.cell? ⟨z.heap.size, 0, none⟩ = some u0 := (blk_cell bl0.out 0).trans rfl
      have hf0 := blk_frozen bl0.out 0
      obtain ⟨Ao0, co0, eo0⟩ := Kd.R_slice H.out.kp
      refine skip_ (w1 := w2.setCell ⟨z.heap.size, 0, none⟩ nv) (by rfl) rfl ?_ ?_
      · rw [eo0]
        go_simp
        try rfl
      refine hK.out _ _ ?_
      clear hK K hs0 hf0 bl0 hHeld eo0
      refine done_ (done_of HT_.out (by kernel_rfl)) ?_
      clear HT_ HW_
      try go_wp2
      refine start_ (n := 8) (S := fun w' => w'.cell? ⟨z.heap.size, 0, none⟩ = some nv ∧ w'.cell? ⟨z.heap.size, 1, none⟩ = some u1) (ds := [7]) #[false, false, false, false, false, false, false, false] (by kernel_rfl) rfl rfl ⟨(blk_cell H.out.blk 0).trans rfl, (blk_cell H.out.blk 1).trans rfl⟩ (fun hHeld => ?_); refine with_tabW tab1 bits1 (fun HT_ HW_ => ?_)
      have n0_ := Aside0.mk H.out.drew
      clear H
      have H := n0_
      clear n0_
      generalize World.drew _ = wd1 at H hHeld ⊢
      refine pure_ (i := 0) (N := some 15) (v := ?_) (a' := ?_) #[true, false, false, false, false, false, false, false] rfl rfl (any_of HT_.out (by kernel_rfl)) (fun _ _ _ h => h) (Or.inl ⟨by rfl, ?_⟩) ?_ ?_
      rotate_left
      · intro w'
        go_simp
        with_reducible rfl
      rotate_left
      · simp only [Act.put, List.setIfInBounds_toArray, List.set_cons_zero, List.set_cons_succ, i64_w, i32_w]
        rfl
      refine pure_ (i := 2) (N := some 17) (v := ?_) (a' := ?_) #[true, false, true, false, false, false, false, false] rfl rfl (any_of HT_.out (by kernel_rfl)) (fun _ _ _ h => h) (Or.inl ⟨by rfl, ?_⟩) ?_ ?_
      rotate_left
      · intro w'
        go_simp
        with_reducible rfl
      rotate_left
      · simp only [Act.put, List.setIfInBounds_toArray, List.set_cons_zero, List.set_cons_succ, i64_w, i32_w]
        rfl
      refine take_ (i := 1) (N := some 16) (v := ?_) (a' := ?_) #[true, true, true, false, false, false, false, false] rfl rfl (take_ofW HT_.out HW_.out (by kernel_rfl)) (fun _ _ _ h => h) (Or.inl ⟨by rfl, ?_⟩) hHeld ?_ ?_
      rotate_left
      · rintro w' ⟨s0, s1⟩
        go_simp
        with_reducible rfl
      rotate_left
      · simp only [Act.put, List.setIfInBounds_toArray, List.set_cons_zero, List.set_cons_succ, i64_w, i32_w]
        rfl
      refine one_ (i := 3) (N := some 18) #[true, true, true, true, false, false, false, false] rfl rfl (one_of HT_.out (by kernel_rfl)) (by decide) (fun K hK => ?_)
      refine goes_ Tryd.func32 (by kernel_rfl) rfl #[.pointer (some ⟨g, 0, none⟩)] (by rfl) rfl rfl (by simp only [List.map_toArray, List.map_cons, List.map_nil]; rfl) ?_
      with_reducible refine (byte_any B g (tl rs) _ H.out.rd).mono ?_
      rintro e w1 ⟨rfl, hr1, hg1⟩
      have n0_ := Aside0.mk (H.out.byte hr1 hg1)
      clear H hr1 hg1
      have H := n0_
      clear n0_
      refine ⟨_, rfl, ?_⟩
      refine hK.out _ _ ⟨(blk_cell H.out.blk 0).trans rfl, (blk_cell H.out.blk 1).trans rfl⟩ (fun hHeld => ?_)
      clear hK K
      refine norm_ (a' := ?_) ?_ ?_
      rotate_left
      · show Act.put _ (some 18) _ = _
        simp only [Act.put, List.setIfInBounds_toArray, List.set_cons_zero, List.set_cons_succ, i64_w, i32_w]
        rfl
      refine one_ (i := 4) (N := some 19) #[true, true, true, true, true, false, false, false] rfl rfl (one_of HT_.out (by kernel_rfl)) (by decide) (fun K hK => ?_)
      refine value_ (w1 := ?_) (v := ?_) (by rfl) rfl ?_ ?_
      rotate_left 2
      · go_simp
        constructor
        · rfl
        · rfl
      refine hK.out _ _ ⟨(blk_cell (blk_alloc H.out.blk _) 0).trans rfl, (blk_cell (blk_alloc H.out.blk _) 1).trans rfl⟩ (fun hHeld => ?_)
      clear hK K
      refine norm_ (a' := ?_) ?_ ?_
      rotate_left
      · show Act.put _ (some 19) _ = _
        simp only [Act.put, List.setIfInBounds_toArray, List.set_cons_zero, List.set_cons_succ, i64_w, i32_w]
        rfl
      refine one_ (i := 5) (N := some 20) #[true, true, true, true, true, true, false, false] rfl rfl (one_of HT_.out (by kernel_rfl)) (by decide) (fun K hK => ?_)
      refine Kd.R_append_step (Kd.int .i64) (w0 := w1) z.heap.size (by rfl) (.tmp 16) (.tmp 19) 22 3 (.int .i64 0) 8 rfl Tryd.underlying22 info3 rfl (by decide) (by omega) u1 ts (hd (tl rs)) [.int .i64 (hd (tl rs))] (fun k_ => some k_ ≠ (nv : Value).ownBlock) (fun _ => False) rfl rfl ?aP (fun _ hk => hk.elim) ?aF H.out.tn (Below.refl _ _) H.out.fr.size ?aL ?_
      (case aP => exact rfl)
      (case aF => exact Kd.fresh' (Kd.R_lt H.out.kp))
      (case aL => have := HL1.out; omega)
      intro nt w2 ho hb hg hat
      have bl1 := Aside0.mk (blk_grown H.out.blk hg (fun e_ => (H.out.u1_ne _ e_.symm).2.2 rfl))
      have n0_ := Aside0.mk (H.out.app1 ho hg)
      clear H ho hb hg hat
      have H := n0_
      clear n0_
      refine hK.out _ _ ⟨(blk_cell bl1.out 0).trans rfl, (blk_cell bl1.out 1).trans rfl⟩ (fun hHeld => ?_)
      clear hK K
      refine norm_ (a' := ?_) ?_ ?_
      rotate_left
      · show Act.put _ (some 20) _ = _
        simp only [Act.put, List.setIfInBounds_toArray, List.set_cons_zero, List.set_cons_succ, i64_w, i32_w]
        rfl
      refine pure_ (i := 6) (N := some 21) (v := ?_) (a' := ?_) #[true, true, true, true, true, true, true, false] rfl rfl (any_of HT_.out (by kernel_rfl)) (fun _ _ _ h => h) (Or.inl ⟨by rfl, ?_⟩) ?_ ?_
      rotate_left
      · intro w'
        go_simp
        with_reducible rfl
      rotate_left
      · simp only [Act.put, List.setIfInBounds_toArray, List.set_cons_zero, List.set_cons_succ, i64_w, i32_w]
        rfl
      refine last_ (i := 7) (N := none) #[true, true, true, true, true, true, true, true] rfl rfl (one_of HT_.out (by kernel_rfl)) (by decide) (fun K hK => ?_)
      have hs1 : w2.cell? ⟨z.heap.size, 1, none⟩ = some u1 := (blk_cell bl1.out 1).trans rfl
      have hf1 := blk_frozen bl1.out 1
      obtain ⟨Ao1, co1, eo1⟩ := Kd.R_slice H.out.tn
      refine skip_ (w1 := w2.setCell ⟨z.heap.size, 1, none⟩ nt) (by rfl) rfl ?_ ?_
      · rw [eo1]
        go_simp
        try rfl
      refine hK.out _ _ ?_
      clear hK K hs1 hf1 bl1 hHeld eo1
      refine done_ (done_of HT_.out (by kernel_rfl)) ?_
      clear HT_ HW_
      try go_wp2
      go_roundg (n - (j + 1))
      case measure => omega
      case rel => exact ⟨j + 1, tl (tl rs), nv, nt, ks ++ [hd rs], ts ++ [hd (tl rs)], by go_num, by omega, ⟨by simp [pairs, HP.out]⟩, H⟩
    · have hjn : j = n := by omega
      subst hjn
      have hEQ := HP0.out.symm.trans HP.out
      simp only [Prod.mk.injEq] at hEQ
      obtain ⟨rfl, rfl, rfl⟩ := hEQ
      have c6b0 : decide ((j : Int) < (j : Int)) = false := decide_eq_false (by omega)
      have hn' := Aside0.mk hn
      have hz0 : wr.cell? ⟨z.heap.size, 0, none⟩ = some u0 := (blk_cell H.out.blk 0).trans rfl
      have hz1 : wr.cell? ⟨z.heap.size, 1, none⟩ = some u1 := (blk_cell H.out.blk 1).trans rfl
      have hf0 := blk_frozen H.out.blk 0
      have hf1 := blk_frozen H.out.blk 1
      obtain ⟨A0, c0, e0⟩ := Kd.R_slice H.out.kp
      obtain ⟨A1, c1, e1⟩ := Kd.R_slice H.out.tn
      subst e0
      subst e1
      clear hn
      go_wp2
      have HE := (H.out.app0 H.out.kp (grown_refl _ _)).app1 (H.out.app0 H.out.kp (grown_refl _ _)).tn (grown_refl _ _)
      refine bodyPost_ret (v := .agg #[.slice A0 KS.length c0, .slice A1 TS.length c1]) ?_ rfl ⟨_, _, rfl, HE.kp, HE.tn, HE.rd, HE.fr⟩
      exact results_single rfl (.cell z.heap.size 24 #[.slice A0 KS.length c0, .slice A1 TS.length c1] (0, 0) _ rfl HE.blk Tryd.underlying24 rfl (by kernel_rfl) .nil)

end Go.Proofs.YtahfcdlggaoakaaDoor.Rd


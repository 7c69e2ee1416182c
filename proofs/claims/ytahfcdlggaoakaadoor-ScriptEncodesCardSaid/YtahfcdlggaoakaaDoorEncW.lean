/- ScriptEncodes, walked: it returns true for any acts. -/
import Derived.Test.YtahfcdlggaoakaaDoorEncR
import Derived.Test.YtahfcdlggaoakaaDoorGreatW
import Derived.Test.YtahfcdlggaoakaaDoorTotalW
namespace Go.Proofs.YtahfcdlggaoakaaDoor.Rd
open Go.RowKit Go.Proofs.YtahfcdlggaoakaaDoorW.PrintWords Go.Proofs.YtahfcdlggaoakaaDoorW.PrintLast Go.Proofs.YtahfcdlggaoakaaDoorW.PrintMore
open Go.Proofs.YtahfcdlggaoakaaDoor.PScriptDecodes
set_option linter.unusedVariables false
set_option linter.unusedSimpArgs false

def TE8 : Bool × List (List Nat × List Nat) := (true, [([], []), ([], []), ([0, 1], [0, 1]), ([2], [2]), ([3], [3]), ([], []), ([], []), ([5, 6], [5, 6]), ([7], [7]), ([8, 4], [8]), ([4, 9], [4, 9])])
def BE8 : List Nat := [0, 0, 3, 7, 15, 0, 0, 96, 224, 511, 1023]
theorem tabE8 : rtab .any (opsOf Tryd.f5 8) = TE8 := by kernel_rfl
theorem bitsE8 : waitsOk TE8.2 BE8 = true := by kernel_rfl

theorem great_two {z w' : World} {e : Ending} (h : GreatPost z e w') : (e = .returned (.bool true) ∨ e = .returned (.bool false)) ∧ Below z.heap.size z w' := by
  obtain ⟨b, he, hb⟩ := h
  cases b
  · exact ⟨.inr he, hb⟩
  · exact ⟨.inl he, hb⟩
set_option maxRecDepth 100000 in
set_option maxHeartbeats 4000000 in
theorem encodes_walk (A : Option Addr) (c : Nat) (l : List S26) (hc : l.length ≤ c) (z : World) (hr : Kd.C k26 z A l.length l) (hok : ∀ a ∈ l, okA a) :
    Calls Tryd.prog 5 #[.slice A l.length c] z fun e w' => e = .returned (.bool true) ∧ Below z.heap.size z w' := by
  have HR := Aside0.mk hr
  have HOK := Aside0.mk hok
  have HC := Aside0.mk hc
  clear hok hc
  have hlm := hr.2.1
  clear hr
  go_enter Tryd.func5, Tryd.ntmps5
  go_wp2_with fail
  refine (great_any A c l _ HR.out hlm).mono ?_
  rintro e w1 hgp
  obtain ⟨he, hb⟩ := great_two hgp
  have HB1 := Aside0.mk hb
  clear hgp
  rcases he with rfl | rfl
  · clear hb
    go_wp2_with fail
    refine (awake_any _).mono ?_
    rintro e w2 ⟨rfl, hb2⟩
    have HB2 := Aside0.mk (below_then HB1.out HB1.out.size hb2)
    clear hb2 HB1
    go_wp2
    go_ret
    exact ⟨rfl, HB2.out⟩
  · have HR1 := Aside0.mk (Kd.C_below HR.out hb)
    clear hb HR
    go_wp2_with fail
    refine (encode_any A c l _ HR1.out HOK.out).mono ?_
    rintro e w2 ⟨v2, rfl, hown, hb⟩
    have HR2 := Aside0.mk (Kd.C_below HR1.out hb)
    have HB2 := Aside0.mk (below_then HB1.out HB1.out.size hb)
    clear hb HB1 HR1
    obtain ⟨EB, hEB⟩ : ∃ EB, (enc l).1 = EB := ⟨_, rfl⟩
    obtain ⟨EE, hEE⟩ : ∃ EE, (enc l).2 = EE := ⟨_, rfl⟩
    rw [hEB] at hown
    try rw [hEE]
    obtain ⟨A2, c2, rfl, hc2, hm2, hrd⟩ := own_reads2 hown
    have HRD := Aside0.mk hrd
    have HEB := Aside0.mk hEB
    have HEE := Aside0.mk hEE
    clear hown hrd hc2 hm2 hEB hEE
    simp only [HEB.out]
    go_wp2_with fail
    refine (refenc_any A c l _ HR2.out HC.out HOK.out).mono ?_
    rintro e w3 ⟨rfl, hb⟩
    rw [HEB.out, HEE.out]
    have HR3 := Aside0.mk (Kd.C_below HR2.out hb)
    have HB3 := Aside0.mk (below_then HB2.out HB2.out.size hb)
    have HRD3 := Aside0.mk (HRD.out.below hb)
    clear hb HB2 HR2 HRD
    obtain ⟨S, hS⟩ : ∃ S, S = strOfNums EB := ⟨_, rfl⟩
    rw [← hS]
    have HS := Aside0.mk hS
    clear hS
    go_wp2_with fail
    go_loopg [7] l.length (fun kq v7 wr => ∃ j : Nat, v7 = .int .i64 (j : Int) ∧ j + kq = l.length ∧ Aside0 (Below w3.heap.size w3 wr))
    case atStart => exact ⟨0, rfl, by omega, ⟨Below.refl _ _⟩⟩
    case round =>
      obtain ⟨j, rfl, hjk, HB⟩ := hrel
      by_cases hlt : j < l.length
      · obtain ⟨ad, B4, d4, B5, d5, rfl, x0, x1, x2, x3, x4, x5, l4, g4, l5, g5⟩ := at_T26 (Kd.C_below HR3.out HB.out) (j : Int) (by omega) (by omega)
        rw [Int.toNat_natCast] at x0 x1 x2 x3 x4 x5
        obtain ⟨a, ha⟩ : ∃ a, a = rd_T26 l (j : Int) := ⟨_, rfl⟩
        rw [← ha] at x0 x1 x2 x3 x4 x5 l4 g4 l5 g5
        have hmem : a ∈ l := by rw [ha]; unfold rd_T26; rw [Int.toNat_natCast, List.getD_eq_getElem?_getD, List.getElem?_eq_getElem hlt]; exact List.getElem_mem hlt
        have R4 : Aside0 (ReadsInt wr .i64 B4 a.f4.f0.length a.f4.f0) := ⟨Kd.reads_of_C (enc := Value.int .i64) (d := (0 : Int)) (h1 := fun _ => rfl) g4⟩
        have R5 : Aside0 (ReadsInt wr .i64 B5 a.f4.f1.length a.f4.f1) := ⟨Kd.reads_of_C (enc := Value.int .i64) (d := (0 : Int)) (h1 := fun _ => rfl) g5⟩
        have hsix : Aside0 (Six (ad.add (j * 6)) a (.slice B4 a.f4.f0.length d4) (.slice B5 a.f4.f1.length d5) wr) := ⟨x0, x1, x2, x3, x4, x5⟩
        obtain ⟨⟨ok0, ok1⟩, ok2, ok3⟩ := HOK.out a hmem
        have G4 := Aside0.mk g4
        have G5 := Aside0.mk g5
        have HJ := Aside0.mk hjk
        have p1 := eq_true (by omega : (0 : Int) ≤ (j : Int))
        have q1 := eq_true (by omega : (j : Int) < (l.length : Int))
        clear hmem ha g4 g5 hjk x0 x1 x2 x3 x4 x5
        try go_wp2
        have HBD := Aside0.mk (below_drew HB.out)
        have SIX := Aside0.mk (hsix.out.below (below_drew (Below.refl _ _)))
        have R4D := Aside0.mk (R4.out.below (below_drew (Below.refl _ _)))
        have R5D := Aside0.mk (R5.out.below (below_drew (Below.refl _ _)))
        have G4D := Aside0.mk (Kd.C_below G4.out (below_drew (Below.refl _ _)))
        have G5D := Aside0.mk (Kd.C_below G5.out (below_drew (Below.refl _ _)))
        clear HB hsix R4 R5 G4 G5
        refine start_ (n := 11) (S := Six (ad.add (j * 6)) a (.slice B4 a.f4.f0.length d4) (.slice B5 a.f4.f1.length d5)) (ds := []) #[false, false, false, false, false, false, false, false, false, false, false] (by kernel_rfl) rfl rfl SIX.out (fun hHeld => ?_)
        refine with_tabW tabE8 bitsE8 (fun HT_ HW_ => ?_)
        generalize World.drew _ = w5 at HBD SIX R4D R5D G4D G5D hHeld ⊢
        refine pure_ (i := 0) (N := some 27) (v := ?_) (a' := ?_) #[true, false, false, false, false, false, false, false, false, false, false] rfl rfl (any_of HT_.out (by kernel_rfl)) (fun _ _ _ h => h) (Or.inl ⟨by rfl, ?_⟩) ?_ ?_
        rotate_left
        · intro w'
          go_simp
          with_reducible rfl
        rotate_left
        · simp only [Act.put, List.setIfInBounds_toArray, List.set_cons_zero, List.set_cons_succ, i64_w, i32_w]
          rfl
        refine pure_ (i := 1) (N := some 28) (v := ?_) (a' := ?_) #[true, true, false, false, false, false, false, false, false, false, false] rfl rfl (any_of HT_.out (by kernel_rfl)) (fun _ _ _ h => h) (Or.inl ⟨by rfl, ?_⟩) ?_ ?_
        rotate_left
        · intro w'
          go_simp
          with_reducible rfl
        rotate_left
        · simp only [Act.put, List.setIfInBounds_toArray, List.set_cons_zero, List.set_cons_succ, i64_w, i32_w]
          rfl
        refine pure_ (i := 2) (N := some 29) (v := ?_) (a' := ?_) #[true, true, true, false, false, false, false, false, false, false, false] rfl rfl (any_of HT_.out (by kernel_rfl)) (fun _ _ _ h => h) (Or.inl ⟨by rfl, ?_⟩) ?_ ?_
        rotate_left
        · intro w'
          go_simp
          with_reducible rfl
        rotate_left
        · simp only [Act.put, List.setIfInBounds_toArray, List.set_cons_zero, List.set_cons_succ, i64_w, i32_w]
          rfl
        refine pure_ (i := 5) (N := some 32) (v := ?_) (a' := ?_) #[true, true, true, false, false, true, false, false, false, false, false] rfl rfl (any_of HT_.out (by kernel_rfl)) (fun _ _ _ h => h) (Or.inl ⟨by rfl, ?_⟩) ?_ ?_
        rotate_left
        · intro w'
          go_simp
          with_reducible rfl
        rotate_left
        · simp only [Act.put, List.setIfInBounds_toArray, List.set_cons_zero, List.set_cons_succ, i64_w, i32_w]
          rfl
        refine pure_ (i := 6) (N := some 33) (v := ?_) (a' := ?_) #[true, true, true, false, false, true, true, false, false, false, false] rfl rfl (any_of HT_.out (by kernel_rfl)) (fun _ _ _ h => h) (Or.inl ⟨by rfl, ?_⟩) ?_ ?_
        rotate_left
        · intro w'
          go_simp
          with_reducible rfl
        rotate_left
        · simp only [Act.put, List.setIfInBounds_toArray, List.set_cons_zero, List.set_cons_succ, i64_w, i32_w]
          rfl
        refine pure_ (i := 7) (N := some 34) (v := ?_) (a' := ?_) #[true, true, true, false, false, true, true, true, false, false, false] rfl rfl (any_of HT_.out (by kernel_rfl)) (fun _ _ _ h => h) (Or.inl ⟨by rfl, ?_⟩) ?_ ?_
        rotate_left
        · intro w'
          go_simp
          with_reducible rfl
        rotate_left
        · simp only [Act.put, List.setIfInBounds_toArray, List.set_cons_zero, List.set_cons_succ, i64_w, i32_w]
          rfl
        refine take_ (i := 3) (N := some 30) (v := ?_) (a' := ?_) #[true, true, true, true, false, true, true, true, false, false, false] rfl rfl (take_ofW HT_.out HW_.out (by kernel_rfl)) (fun _ _ _ h => h) (Or.inl ⟨by rfl, ?_⟩) hHeld ?_ ?_
        rotate_left
        · rintro w' ⟨s0, s1, s2, s3, s4, s5⟩
          go_simp
          with_reducible rfl
        rotate_left
        · simp only [Act.put, List.setIfInBounds_toArray, List.set_cons_zero, List.set_cons_succ, i64_w, i32_w]
          rfl
        refine take_ (i := 8) (N := some 35) (v := ?_) (a' := ?_) #[true, true, true, true, false, true, true, true, true, false, false] rfl rfl (take_ofW HT_.out HW_.out (by kernel_rfl)) (fun _ _ _ h => h) (Or.inl ⟨by rfl, ?_⟩) hHeld ?_ ?_
        rotate_left
        · rintro w' ⟨s0, s1, s2, s3, s4, s5⟩
          go_simp
          with_reducible rfl
        rotate_left
        · simp only [Act.put, List.setIfInBounds_toArray, List.set_cons_zero, List.set_cons_succ, i64_w, i32_w]
          rfl
        refine one_ (i := 4) (N := some 31) #[true, true, true, true, true, true, true, true, true, false, false] rfl rfl (one_of HT_.out (by kernel_rfl)) (by decide) (fun K hK => ?_)
        refine goes_ Tryd.func12 (by kernel_rfl) rfl #[(.agg #[.int .u8 a.f0, .int .u8 a.f1, .int .i64 a.f2, .string a.f3, .slice B4 a.f4.f0.length d4, .slice B5 a.f4.f1.length d5])] (by rfl) rfl rfl (by first | rfl | (simp only [List.map_toArray, List.map_cons, List.map_nil]; done) | (simp only [List.map_toArray, List.map_cons, List.map_nil]; rfl)) ?_
        refine (plain_any a.f0 a.f1 a.f2 a.f3 B4 B5 d4 d5 a.f4.f0 a.f4.f1 _ R4D.out R5D.out l4 l5 ok0 ok1 ok2 ok3).mono ?_
        rintro e w6 ⟨rfl, hb⟩
        have HB6 := Aside0.mk (below_then HBD.out HBD.out.size hb)
        have SIX6 := Aside0.mk (SIX.out.below hb)
        have G46 := Aside0.mk (Kd.C_below G4D.out hb)
        have G56 := Aside0.mk (Kd.C_below G5D.out hb)
        clear hb HBD SIX R4D R5D G4D G5D
        obtain ⟨pb, hpb⟩ : ∃ pb, pb = plainB a.f0 a.f1 a.f2 a.f3 a.f4.f0 a.f4.f1 := ⟨_, rfl⟩
        rw [← hpb]
        have HPB := Aside0.mk hpb
        clear hpb
        refine ⟨_, rfl, ?_⟩
        refine hK.out _ _ SIX6.out (fun hHeld => ?_)
        clear hK K
        refine norm_ (a' := ?_) ?_ ?_
        rotate_left
        · show Act.put _ (some 31) _ = _
          simp only [Act.put, List.setIfInBounds_toArray, List.set_cons_zero, List.set_cons_succ, i64_w, i32_w]
          rfl
        refine one_ (i := 9) (N := some 36) #[true, true, true, true, true, true, true, true, true, true, false] rfl rfl (one_of HT_.out (by kernel_rfl)) (by decide) (fun K hK => ?_)
        refine goes_ Tryd.func17 (by kernel_rfl) rfl #[(.agg #[.int .u8 a.f0, .int .u8 a.f1, .int .i64 a.f2, .string a.f3, .slice B4 a.f4.f0.length d4, .slice B5 a.f4.f1.length d5])] (by rfl) rfl rfl (by first | rfl | (simp only [List.map_toArray, List.map_cons, List.map_nil]; done) | (simp only [List.map_toArray, List.map_cons, List.map_nil]; rfl)) ?_
        refine (refplain_any a.f0 a.f1 a.f2 a.f3 B4 B5 d4 d5 a.f4.f0 a.f4.f1 _ G46.out G56.out l4 l5).mono ?_
        rintro e w7 ⟨rfl, hb⟩
        have HB7 := Aside0.mk (below_then HB6.out HB6.out.size hb)
        have SIX7 := Aside0.mk (SIX6.out.below hb)
        clear hb HB6 SIX6 G46 G56
        rw [← HPB.out]
        refine ⟨_, rfl, ?_⟩
        refine hK.out _ _ SIX7.out (fun hHeld => ?_)
        clear hK K
        refine norm_ (a' := ?_) ?_ ?_
        rotate_left
        · show Act.put _ (some 36) _ = _
          simp only [Act.put, List.setIfInBounds_toArray, List.set_cons_zero, List.set_cons_succ, i64_w, i32_w]
          rfl
        refine pure_ (i := 10) (N := some 37) (v := ?_) (a' := ?_) #[true, true, true, true, true, true, true, true, true, true, true] rfl rfl (any_of HT_.out (by kernel_rfl)) (fun _ _ _ h => h) (Or.inl ⟨by rfl, ?_⟩) ?_ ?_
        rotate_left
        · intro w'
          go_simp
          with_reducible rfl
        rotate_left
        · simp only [Act.put, List.setIfInBounds_toArray, List.set_cons_zero, List.set_cons_succ, i64_w, i32_w]
          rfl
        refine done_ (done_of HT_.out (by kernel_rfl)) ?_
        clear HT_ HW_
        clear hHeld p1 q1 SIX7
        go_wp2
        go_roundg (gk - 1)
        case measure => have := HJ.out; omega
        case rel => exact ⟨j + 1, by go_num, by have := HJ.out; omega, HB7⟩
      · have RB := Aside0.mk (HRD3.out.below HB.out)
        have ks := fun (cap : Nat) => string_of_reads (P := Tryd.prog) (c := cap) Tryd.underlying29 Tryd.underlying5 Tryd.underlying9 RB.out
        rw [← HS.out] at ks
        have HBW := Aside0.mk (below_then HB3.out HB3.out.size HB.out)
        clear hjk HB HB3 RB
        go_wp2_with fail
        refine (awake_any _).mono ?_
        rintro e w7 ⟨rfl, hb⟩
        have HB7 := Aside0.mk (below_then HBW.out HBW.out.size hb)
        clear hb HBW
        go_wp2
        go_ret
        exact ⟨rfl, HB7.out⟩
/-- As the row asks it. -/
theorem encodes_row (z : World) (A : Option Addr) (c : Nat) (l : List S26) (hc : l.length ≤ c) (hr : Kd.C k26 z A l.length l) (hok : ∀ a ∈ l, okA a) :
    Calls Tryd.prog 5 #[.slice A l.length c] z fun e w' => e = .returned (.bool true) ∧ Below z.heap.size z w' := encodes_walk A c l hc z hr hok
#print axioms encodes_row
end Go.Proofs.YtahfcdlggaoakaaDoor.Rd

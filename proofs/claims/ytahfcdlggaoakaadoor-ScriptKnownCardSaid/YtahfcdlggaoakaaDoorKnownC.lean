/- ScriptKnown, walked. -/
import Derived.Test.YtahfcdlggaoakaaDoorKnownP
namespace Go.Proofs.YtahfcdlggaoakaaDoor.Rd
open Go.RowKit Go.Proofs.YtahfcdlggaoakaaDoorW.PrintWords Go.Proofs.YtahfcdlggaoakaaDoorW.PrintLast Go.Proofs.YtahfcdlggaoakaaDoorW.PrintMore
open Go.Proofs.YtahfcdlggaoakaaDoor.PScriptDecodes
set_option linter.unusedVariables false
set_option linter.unusedSimpArgs false
/-- What a region has filled. -/
theorem frame_filled (sl : List Nat) : ∀ (S T : Array Value), T.size = S.size → (∀ t, t ∉ sl → T.getD t undef = S.getD t undef) → T = sl.foldl (fun U t => U.setIfInBounds t (T.getD t undef)) S := by
  induction sl with
  | nil =>
    intro S T hs h
    apply Array.ext hs
    intro i h1 h2
    have := h i (by simp)
    simpa [Array.getD, h1, h2] using this
  | cons t sl ih =>
    intro S T hs h
    simp only [List.foldl_cons]
    refine ih _ T (by simp [hs]) (fun u hu => ?_)
    rw [getD_set]
    by_cases e : t = u
    · subst e
      by_cases h2 : t < S.size
      · rw [if_pos ⟨rfl, h2⟩]
      · rw [if_neg (by omega)]
        simp [Array.getD, hs, h2]
    · rw [if_neg (fun x => e x.1)]
      exact h u (by simp [hu, Ne.symm e])

set_option maxRecDepth 100000 in
set_option maxHeartbeats 4000000 in
theorem known_walk (z : World) : Calls Tryd.prog 3 #[] z fun e w' => e = .returned (.bool true) ∧ Below z.heap.size z w' := by
  have kc := fun (w : World) (C : Array Value) (n c : Nat) => Lib.run_convert_bytes_const (P := Tryd.prog) w 29 5 C n c Tryd.underlying29 Tryd.underlying5
  have k1 := fun (a b c : Obj) (C : Array Value) => Joins.run_convert_bytes_const_at (P := Tryd.prog) (((z.alloc a).alloc b).alloc c) 29 5 C 8 8 (z.heap.size + 1 + 1 + 1) (by simp) Tryd.underlying29 Tryd.underlying5
  go_enter Tryd.func3, Tryd.ntmps3
  go_wp2_with fail
  -- the fuse, and the bytes that are decoded as it
  refine (dec_lit [5, 2, 7, 2, 1, 3, 0, 9] _ _ (by decide) (by decide) 8 rfl _ (blk_new4 z _ _ _ _)).mono ?_
  rintro e w1 ⟨A1, c1, rfl, l1, r1, hb⟩
  rw [dec_fuse] at l1 r1
  simp only [dec_fuse]
  have b0 := blk_below (blk_alloc (blk_alloc (blk_alloc (blk_new z (.cells #[.int .i64 1, .int .i64 0] 3)) _) _) _) hb
  have b1 := blk_below (blk_alloc (blk_alloc (blk_new2 z (.cells #[.int .i64 1, .int .i64 0] 3) (.cells #[.int .i64 3, .int .i64 9] 3)) _) _) hb
  have b2 := blk_below (blk_alloc (blk_new3 z (.cells #[.int .i64 1, .int .i64 0] 3) (.cells #[.int .i64 3, .int .i64 9] 3) (.cells #[.int .u8 6, .int .u8 3, .int .i64 7, .string ⟨#[]⟩, .slice (some ⟨z.heap.size, 0, none⟩) 2 2, .slice (some ⟨z.heap.size + 1, 0, none⟩) 2 2] 26)) _) hb
  have F1 : Aside0 (Kd.C k26 w1 (some ⟨z.heap.size + 1 + 1, 0, none⟩) 1 fuseA) := ⟨one_C b2 (by decide) (int_C (reads_blk (k := .i64) (xs := [1, 0]) b0 (by decide))) (by decide) (int_C (reads_blk (k := .i64) (xs := [3, 9]) b1 (by decide)))⟩
  have R1 := Aside0.mk r1
  have HB1 := Aside0.mk (below_then (below_alloc (below_alloc (below_alloc (below_alloc (Below.refl z.heap.size z) _) _) _) _) (below_alloc (below_alloc (below_alloc (below_alloc (Below.refl z.heap.size z) _) _) _) _).size hb)
  clear r1 b0 b1 b2 hb k1
  go_wp2_with fail
  refine (dec_lit [0] _ _ (by decide) (by decide) 1 rfl _ (blk_new w1 _)).mono ?_
  rintro e w2 ⟨A2, c2, rfl, l2, r2, hb⟩
  rw [dec_bare] at l2 r2
  simp only [dec_bare]
  have n0_ := Aside0.mk (Kd.C_below (Kd.C_below F1.out (below_alloc (Below.refl _ _) _)) hb)
  clear F1
  have F1 := n0_
  clear n0_
  have n0_ := Aside0.mk (Kd.C_below (Kd.C_below R1.out (below_alloc (Below.refl _ _) _)) hb)
  clear R1
  have R1 := n0_
  clear n0_
  have R2 := Aside0.mk r2
  have n0_ := Aside0.mk (below_then (below_alloc HB1.out _) (below_alloc HB1.out _).size hb)
  clear HB1 hb r2
  have HB2 := n0_
  clear n0_
  go_wp2_with fail
  refine (dec_lit [9, 0, 255, 255, 97] _ _ (by decide) (by decide) 5 rfl _ (blk_new w2 _)).mono ?_
  rintro e w3 ⟨A3, c3, rfl, l3, r3, hb⟩
  rw [dec_a] at l3 r3
  simp only [dec_a]
  have n0_ := Aside0.mk (Kd.C_below (Kd.C_below F1.out (below_alloc (Below.refl _ _) _)) hb)
  clear F1
  have F1 := n0_
  clear n0_
  have n0_ := Aside0.mk (Kd.C_below (Kd.C_below R1.out (below_alloc (Below.refl _ _) _)) hb)
  clear R1
  have R1 := n0_
  clear n0_
  have n0_ := Aside0.mk (Kd.C_below (Kd.C_below R2.out (below_alloc (Below.refl _ _) _)) hb)
  clear R2
  have R2 := n0_
  clear n0_
  have R3 := Aside0.mk r3
  have n0_ := Aside0.mk (below_then (below_alloc HB2.out _) (below_alloc HB2.out _).size hb)
  clear HB2 hb r3
  have HB3 := n0_
  clear n0_
  go_wp2_with fail
  refine (dec_lit [255] _ _ (by decide) (by decide) 1 rfl _ (blk_new w3 _)).mono ?_
  rintro e w4 ⟨A4, c4, rfl, l4, r4, hb⟩
  rw [dec_twice] at l4 r4
  simp only [dec_twice]
  have n0_ := Aside0.mk (Kd.C_below (Kd.C_below F1.out (below_alloc (Below.refl _ _) _)) hb)
  clear F1
  have F1 := n0_
  clear n0_
  have n0_ := Aside0.mk (Kd.C_below (Kd.C_below R1.out (below_alloc (Below.refl _ _) _)) hb)
  clear R1
  have R1 := n0_
  clear n0_
  have n0_ := Aside0.mk (Kd.C_below (Kd.C_below R2.out (below_alloc (Below.refl _ _) _)) hb)
  clear R2
  have R2 := n0_
  clear n0_
  have n0_ := Aside0.mk (Kd.C_below (Kd.C_below R3.out (below_alloc (Below.refl _ _) _)) hb)
  clear R3
  have R3 := n0_
  clear n0_
  have R4 := Aside0.mk r4
  have n0_ := Aside0.mk (below_then (below_alloc HB3.out _) (below_alloc HB3.out _).size hb)
  clear HB3 hb r4
  have HB4 := n0_
  clear n0_
  go_wp2_with fail
  have q1 : Kd.C k26 (w4.alloc (.cells #[.int .u8 9, .int .u8 7, .int .i64 20, .string ⟨#[]⟩, .slice none 0 0, .slice none 0 0] 26)) (some ⟨w4.heap.size, 0, none⟩) 1 roundsA := one_C (blk_new w4 _) (by decide) (nil_int _) (by decide) (nil_int _)
  refine (encode_any _ 1 roundsA _ q1 (by intro a ha; simp only [roundsA, List.mem_cons, List.not_mem_nil, or_false] at ha; subst ha; exact ⟨⟨by decide, by decide⟩, by decide, by decide⟩)).mono ?_
  rintro e w5 ⟨v, rfl, hown, hb⟩
  rw [enc_rounds] at hown
  simp only [enc_rounds]
  obtain ⟨Av, cv, rfl, hcv, hcm, hrv⟩ := own_reads2 hown
  have HV := Aside0.mk hrv
  have n0_ := Aside0.mk (Kd.C_below (Kd.C_below F1.out (below_alloc (Below.refl _ _) _)) hb)
  clear F1
  have F1 := n0_
  clear n0_
  have n0_ := Aside0.mk (Kd.C_below (Kd.C_below R1.out (below_alloc (Below.refl _ _) _)) hb)
  clear R1
  have R1 := n0_
  clear n0_
  have n0_ := Aside0.mk (Kd.C_below (Kd.C_below R2.out (below_alloc (Below.refl _ _) _)) hb)
  clear R2
  have R2 := n0_
  clear n0_
  have n0_ := Aside0.mk (Kd.C_below (Kd.C_below R3.out (below_alloc (Below.refl _ _) _)) hb)
  clear R3
  have R3 := n0_
  clear n0_
  have n0_ := Aside0.mk (Kd.C_below (Kd.C_below R4.out (below_alloc (Below.refl _ _) _)) hb)
  clear R4
  have R4 := n0_
  clear n0_
  have n0_ := Aside0.mk (below_then (below_alloc HB4.out _) (below_alloc HB4.out _).size hb)
  clear HB4 hb hown hrv q1
  have HB5 := n0_
  clear n0_
  go_wp2_with fail
  refine (same_any A1 (some ⟨z.heap.size + 1 + 1, 0, none⟩) c1 1 fuseA _ R1.out F1.out l1 (by decide)).mono ?_
  rintro e w6 ⟨rfl, hb⟩
  have n0_ := Aside0.mk (Kd.C_below F1.out hb)
  clear F1
  have F1 := n0_
  clear n0_
  have n0_ := Aside0.mk (Kd.C_below R1.out hb)
  clear R1
  have R1 := n0_
  clear n0_
  have n0_ := Aside0.mk (Kd.C_below R2.out hb)
  clear R2
  have R2 := n0_
  clear n0_
  have n0_ := Aside0.mk (Kd.C_below R3.out hb)
  clear R3
  have R3 := n0_
  clear n0_
  have n0_ := Aside0.mk (Kd.C_below R4.out hb)
  clear R4
  have R4 := n0_
  clear n0_
  have n0_ := Aside0.mk (HV.out.below hb)
  clear HV
  have HV := n0_
  clear n0_
  have HB6 := Aside0.mk (below_then HB5.out HB5.out.size hb)
  clear HB5 hb
  clear F1 R1
  go_wp2_with fail
  have q1 : Kd.C k26 (w6.alloc (.cells #[.int .u8 1, .int .u8 1, .int .i64 0, .string ⟨#[]⟩, .slice none 0 0, .slice none 0 0] 26)) (some ⟨w6.heap.size, 0, none⟩) 1 bareA := one_C (blk_new w6 _) (by decide) (nil_int _) (by decide) (nil_int _)
  refine (same_any A2 _ c2 1 bareA _ (Kd.C_below R2.out (below_alloc (Below.refl _ _) _)) q1 l2 (by decide)).mono ?_
  rintro e w7 ⟨rfl, hb⟩
  have n0_ := Aside0.mk (Kd.C_below (Kd.C_below R2.out (below_alloc (Below.refl _ _) _)) hb)
  clear R2
  have R2 := n0_
  clear n0_
  have n0_ := Aside0.mk (Kd.C_below (Kd.C_below R3.out (below_alloc (Below.refl _ _) _)) hb)
  clear R3
  have R3 := n0_
  clear n0_
  have n0_ := Aside0.mk (Kd.C_below (Kd.C_below R4.out (below_alloc (Below.refl _ _) _)) hb)
  clear R4
  have R4 := n0_
  clear n0_
  have n0_ := Aside0.mk ((HV.out.below (below_alloc (Below.refl _ _) _)).below hb)
  clear HV
  have HV := n0_
  clear n0_
  have HB7 := Aside0.mk (below_then (below_alloc HB6.out _) (below_alloc HB6.out _).size hb)
  clear HB6 hb q1
  go_wp2_with fail
  have q1 : Kd.C k26 (w7.alloc (.cells #[.int .u8 1, .int .u8 1, .int .i64 0, .string ⟨#[97]⟩, .slice none 0 0, .slice none 0 0] 26)) (some ⟨w7.heap.size, 0, none⟩) 1 aA := one_C (blk_new w7 _) (by decide) (nil_int _) (by decide) (nil_int _)
  refine (same_any A3 _ c3 1 aA _ (Kd.C_below R3.out (below_alloc (Below.refl _ _) _)) q1 l3 (by decide)).mono ?_
  rintro e w8 ⟨rfl, hb⟩
  have n0_ := Aside0.mk (Kd.C_below (Kd.C_below R2.out (below_alloc (Below.refl _ _) _)) hb)
  clear R2
  have R2 := n0_
  clear n0_
  have n0_ := Aside0.mk (Kd.C_below (Kd.C_below R3.out (below_alloc (Below.refl _ _) _)) hb)
  clear R3
  have R3 := n0_
  clear n0_
  have n0_ := Aside0.mk (Kd.C_below (Kd.C_below R4.out (below_alloc (Below.refl _ _) _)) hb)
  clear R4
  have R4 := n0_
  clear n0_
  have n0_ := Aside0.mk ((HV.out.below (below_alloc (Below.refl _ _) _)).below hb)
  clear HV
  have HV := n0_
  clear n0_
  have HB8 := Aside0.mk (below_then (below_alloc HB7.out _) (below_alloc HB7.out _).size hb)
  clear HB7 hb q1
  go_wp2_with fail
  have q1 : Kd.C k26 (w8.alloc (.cells #[.int .u8 4, .int .u8 0, .int .i64 0, .string ⟨#[]⟩, .slice none 0 0, .slice none 0 0] 26)) (some ⟨w8.heap.size, 0, none⟩) 1 twiceA := one_C (blk_new w8 _) (by decide) (nil_int _) (by decide) (nil_int _)
  refine (same_any A4 _ c4 1 twiceA _ (Kd.C_below R4.out (below_alloc (Below.refl _ _) _)) q1 l4 (by decide)).mono ?_
  rintro e w9 ⟨rfl, hb⟩
  have n0_ := Aside0.mk (Kd.C_below (Kd.C_below R2.out (below_alloc (Below.refl _ _) _)) hb)
  clear R2
  have R2 := n0_
  clear n0_
  have n0_ := Aside0.mk (Kd.C_below (Kd.C_below R3.out (below_alloc (Below.refl _ _) _)) hb)
  clear R3
  have R3 := n0_
  clear n0_
  have n0_ := Aside0.mk (Kd.C_below (Kd.C_below R4.out (below_alloc (Below.refl _ _) _)) hb)
  clear R4
  have R4 := n0_
  clear n0_
  have n0_ := Aside0.mk ((HV.out.below (below_alloc (Below.refl _ _) _)).below hb)
  clear HV
  have HV := n0_
  clear n0_
  have HB9 := Aside0.mk (below_then (below_alloc HB8.out _) (below_alloc HB8.out _).size hb)
  clear HB8 hb q1
  clear R2 R3 R4 l1 l2 l3 l4
  have kcs : (convert 29 9 (.slice Av 3 cv)).run Tryd.prog w9 = .ok (.string ⟨#[8, 7, 20]⟩) w9 := string_of_reads Tryd.underlying29 Tryd.underlying5 Tryd.underlying9 HV.out
  go_wp2
  refine wp_grow (T := TK) (sl := slK) (Pr := PrB) rfl tabK (by decide) rfl (show ∀ t ∈ slK, t < 175 by decide) (by decide) ops_at PrB_stable (fun i o a w ho hi hv _ => kstep i o a w ho hi hv) ?_
  rintro ⟨T, D⟩ wA hdf hsz hoth hval hbA
  replace hdf : D = [] := hdf
  subst hdf
  have hT := frame_filled slK _ T hsz hoth
  obtain ⟨t, ht, A, hA, hC⟩ := hval 24 (by decide)
  have hL : T.getD 101 undef = .int .i64 14 := hval 25 (by decide)
  have hI : T.getD 102 undef = .int .i64 0 := hval 26 (by decide)
  replace hA : T.getD 100 undef = .slice A 14 14 := hA
  simp only [slK, List.foldl_cons, List.foldl_nil] at hT
  rw [hL, hI, hA] at hT
  clear hval hoth hsz hL hI hA
  generalize T.getD 76 undef = x76 at hT
  generalize T.getD 77 undef = x77 at hT
  generalize T.getD 78 undef = x78 at hT
  generalize T.getD 79 undef = x79 at hT
  generalize T.getD 80 undef = x80 at hT
  generalize T.getD 81 undef = x81 at hT
  generalize T.getD 82 undef = x82 at hT
  generalize T.getD 83 undef = x83 at hT
  generalize T.getD 84 undef = x84 at hT
  generalize T.getD 85 undef = x85 at hT
  generalize T.getD 86 undef = x86 at hT
  generalize T.getD 87 undef = x87 at hT
  generalize T.getD 88 undef = x88 at hT
  generalize T.getD 89 undef = x89 at hT
  generalize T.getD 90 undef = x90 at hT
  generalize T.getD 91 undef = x91 at hT
  generalize T.getD 92 undef = x92 at hT
  generalize T.getD 93 undef = x93 at hT
  generalize T.getD 94 undef = x94 at hT
  generalize T.getD 95 undef = x95 at hT
  generalize T.getD 96 undef = x96 at hT
  generalize T.getD 97 undef = x97 at hT
  generalize T.getD 98 undef = x98 at hT
  generalize T.getD 99 undef = x99 at hT
  simp only [List.setIfInBounds_toArray, List.set_cons_succ, List.set_cons_zero] at hT
  subst hT
  have HT := Aside0.mk ht
  have HC := Aside0.mk hC
  have HB9' := Aside0.mk (below_then HB9.out HB9.out.size hbA)
  clear HB9 hbA ht hC
  have HB9 := HB9'
  clear HB9'
  go_wp2
  go_loopg [102] 14 (fun kq v102 wr => ∃ j : Nat, v102 = .int .i64 (j : Int) ∧ j + kq = 14 ∧ Aside0 (Kd.C k26 wr A 14 (badActs t)) ∧ Aside0 (Below z.heap.size z wr))
  case atStart => exact ⟨0, rfl, by omega, HC, HB9⟩
  case round =>
    obtain ⟨j, rfl, hjk, HR, HB⟩ := hrel
    by_cases hlt : j < 14
    · obtain ⟨ad, B4, d4, B5, d5, rfl, y0, y1, y2, y3, y4, y5, l4, g4, l5, g5⟩ := at_T26 HR.out (j : Int) (by omega) (by omega)
      rw [Int.toNat_natCast] at y0 y1 y2 y3 y4 y5
      obtain ⟨a, ha⟩ : ∃ a, a = rd_T26 (badActs t) (j : Int) := ⟨_, rfl⟩
      rw [← ha] at y0 y1 y2 y3 y4 y5 l4 g4 l5 g5
      have hmem : a ∈ badActs t := by rw [ha]; unfold rd_T26; rw [Int.toNat_natCast, List.getD_eq_getElem?_getD, List.getElem?_eq_getElem (show j < (badActs t).length from hlt)]; exact List.getElem_mem _
      obtain ⟨hok, hpl⟩ := bad_one t HT.out a hmem
      have HOK := Aside0.mk hok
      have HE := Aside0.mk (bad_enc a hpl)
      have HP := Aside0.mk (show plainB a.f0 a.f1 a.f2 a.f3 a.f4.f0 a.f4.f1 = false from hpl)
      have G4 := Aside0.mk g4
      have G5 := Aside0.mk g5
      have HJ := Aside0.mk hjk
      clear hmem ha hjk hok hpl g4 g5
      go_wp2_with fail
      have HX := Aside0.mk (below_alloc (below_alloc HB.out (.cells #[.int .u8 a.f0, .int .u8 a.f1, .int .i64 a.f2, .string a.f3, .slice B4 a.f4.f0.length d4, .slice B5 a.f4.f1.length d5] 26)) (.cells #[.int .u8 a.f0, .int .u8 a.f1, .int .i64 a.f2, .string a.f3, .slice B4 a.f4.f0.length d4, .slice B5 a.f4.f1.length d5] 26))
      have hxr := below_alloc (below_alloc (Below.refl wr.heap.size wr) (.cells #[.int .u8 a.f0, .int .u8 a.f1, .int .i64 a.f2, .string a.f3, .slice B4 a.f4.f0.length d4, .slice B5 a.f4.f1.length d5] 26)) (.cells #[.int .u8 a.f0, .int .u8 a.f1, .int .i64 a.f2, .string a.f3, .slice B4 a.f4.f0.length d4, .slice B5 a.f4.f1.length d5] 26)
      have q1 := one_C (blk_new2 wr (.cells #[.int .u8 a.f0, .int .u8 a.f1, .int .i64 a.f2, .string a.f3, .slice B4 a.f4.f0.length d4, .slice B5 a.f4.f1.length d5] 26) (.cells #[.int .u8 a.f0, .int .u8 a.f1, .int .i64 a.f2, .string a.f3, .slice B4 a.f4.f0.length d4, .slice B5 a.f4.f1.length d5] 26)) l4 (Kd.C_below G4.out hxr) l5 (Kd.C_below G5.out hxr)
      refine (encode_any _ 1 [a] _ q1 (by intro b hb; rw [List.mem_singleton.1 hb]; exact HOK.out)).mono ?_
      rintro e w2 ⟨v, rfl, hown, hb⟩
      rw [HE.out] at hown ⊢
      obtain ⟨Av2, cv2, rfl, hcv2, hcm2, hrv2⟩ := own_reads2 hown
      have hblk := blk_below (blk_alloc (blk_new wr (.cells #[.int .u8 a.f0, .int .u8 a.f1, .int .i64 a.f2, .string a.f3, .slice B4 a.f4.f0.length d4, .slice B5 a.f4.f1.length d5] 26)) _) hb
      have z0 : w2.cell? ⟨wr.heap.size, 0, none⟩ = some (.int .u8 a.f0) := blk_cell hblk 0
      have z1 : w2.cell? ⟨wr.heap.size, 1, none⟩ = some (.int .u8 a.f1) := blk_cell hblk 1
      have z2 : w2.cell? ⟨wr.heap.size, 2, none⟩ = some (.int .i64 a.f2) := blk_cell hblk 2
      have z3 : w2.cell? ⟨wr.heap.size, 3, none⟩ = some (.string a.f3) := blk_cell hblk 3
      have z4 : w2.cell? ⟨wr.heap.size, 4, none⟩ = some (.slice B4 a.f4.f0.length d4) := blk_cell hblk 4
      have z5 : w2.cell? ⟨wr.heap.size, 5, none⟩ = some (.slice B5 a.f4.f1.length d5) := blk_cell hblk 5
      have hb2 := below_then hxr hxr.size hb
      have HR2 := Aside0.mk (Kd.C_below HR.out hb2)
      have HB2 := Aside0.mk (below_then HX.out HX.out.size hb)
      have R4 : Aside0 (ReadsInt w2 .i64 B4 a.f4.f0.length a.f4.f0) := ⟨Kd.reads_of_C (enc := Value.int .i64) (d := (0 : Int)) (h1 := fun _ => rfl) (Kd.C_below G4.out hb2)⟩
      have R5 : Aside0 (ReadsInt w2 .i64 B5 a.f4.f1.length a.f4.f1) := ⟨Kd.reads_of_C (enc := Value.int .i64) (d := (0 : Int)) (h1 := fun _ => rfl) (Kd.C_below G5.out hb2)⟩
      obtain ⟨⟨ok0, ok1⟩, ok2, ok3⟩ := HOK.out
      clear q1 hown hb hblk hxr hb2 hrv2 hcm2 hcv2 HR HB HX G4 G5 y0 y1 y2 y3 y4 y5
      simp only [List.length_nil]
      go_wp2_with fail
      refine (plain_any a.f0 a.f1 a.f2 a.f3 B4 B5 d4 d5 a.f4.f0 a.f4.f1 _ R4.out R5.out l4 l5 ok0 ok1 ok2 ok3).mono ?_
      rintro e w3 ⟨rfl, hb⟩
      rw [HP.out]
      have HR3 := Aside0.mk (Kd.C_below HR2.out hb)
      have HB3 := Aside0.mk (below_then HB2.out HB2.out.size hb)
      clear hb HR2 HB2 z0 z1 z2 z3 z4 z5
      go_wp2
      go_roundg (gk - 1)
      case measure => have := HJ.out; omega
      case rel => exact ⟨j + 1, by go_num, by have := HJ.out; omega, HR3, HB3⟩
    · clear HR hjk HC HT
      have kmk : ∀ W : World, (Instr.makeSlice 29 (.int .i64 809) (.int .i64 809)).run Tryd.prog W = .ok (.slice (some ⟨W.heap.size, 0, none⟩) 809 809) (W.alloc (.cells (madeCells #[.int .u8 0] 809) 5)) := fun W => print_make (P := Tryd.prog) 29 5 .u8 1 Tryd.underlying29 info5e (by decide) 809 (by decide) W
      have HO := Aside0.mk (own_made wr z.heap.size 5 .u8 809 HB.out.size (by decide))
      have HB2 := Aside0.mk (below_alloc HB.out (.cells (madeCells #[.int .u8 0] 809) 5))
      go_wp2
      clear kmk
      obtain ⟨w2, hw2⟩ : ∃ w2, w2 = wr.alloc (.cells (madeCells #[.int .u8 0] 809) 5) := ⟨_, rfl⟩
      rw [← hw2] at HO HB2 ⊢
      obtain ⟨g, hg⟩ : ∃ g, g = wr.heap.size := ⟨_, rfl⟩
      rw [← hg] at HO ⊢
      clear hw2 hg HB
      go_loopg [13] 809 (fun kq v13 w4 => ∃ (i : Nat) (xs : List Int), v13 = .int .i64 (i : Int) ∧ i + kq = 809 ∧ xs.length = 809 ∧ Aside0 (∀ k, k < i → xs[k]? = some 1) ∧ Aside0 (w4.ownsRow z.heap.size 5 1 (.slice (some ⟨g, 0, none⟩) 809 809) 809 (nums .u8 xs)) ∧ Aside0 (Below z.heap.size z w4))
      case atStart => exact ⟨0, _, rfl, by omega, List.length_replicate, ⟨fun k hk => absurd hk (Nat.not_lt_zero k)⟩, HO, HB2⟩
      case round =>
        obtain ⟨i, xs, rfl, hik, hxl, HX, HO, HB⟩ := hrel
        by_cases hlt : i < 809
        · obtain ⟨hc, hf⟩ := own_at HO.out (i : Int) (by omega) (by omega)
          rw [Int.toNat_natCast] at hc hf
          have HJ := Aside0.mk hik
          have HL := Aside0.mk hxl
          clear hik hxl
          go_wp2
          have hs := own_store HO.out (i : Int) 1
          rw [Int.toNat_natCast] at hs
          have HO2 := Aside0.mk hs.1
          have HB2 := Aside0.mk (HB.out.grown hs.2 HB.out.size (own_base HO.out))
          clear hs hc hf
          go_roundg (gk - 1)
          case measure => have := HJ.out; omega
          case rel =>
            refine ⟨i + 1, xs.set i 1, by go_num, by have := HJ.out; omega, by rw [List.length_set]; exact HL.out, ⟨fun k hk => ?_⟩, HO2, HB2⟩
            rw [List.getElem?_set]
            by_cases e : i = k
            · rw [if_pos e, if_pos (by have := HL.out; omega)]
            · rw [if_neg e]; exact HX.out k (by omega)
        · have hi : i = 809 := by omega
          have hxs : xs = ones := by
            apply List.ext_getElem? 
            intro k
            by_cases hk : k < 809
            · rw [HX.out k (by omega)]
              unfold ones
              rw [List.getElem?_replicate, if_pos hk]
            · rw [List.getElem?_eq_none (by omega), List.getElem?_eq_none (by rw [len_ones]; omega)]
          subst hxs
          have hrd := own_reads' HO.out
          have HH := Aside0.mk (own_lt HO.out)
          clear HX hxl HO
          have HRD := Aside0.mk hrd
          clear hrd hik hi
          go_wp2_with fail
          refine (decode_any _ 809 809 ones _ HRD.out (Nat.le_refl _) (by decide) (fun _ ad e => by injection e with e; subst e; exact HH.out g rfl) ones_bs).mono ?_
          rintro e w5 ⟨v, rfl, hra, hb⟩
          rw [dec_many] at hra
          have HB5 := Aside0.mk (below_then HB.out HB.out.size hb)
          obtain ⟨_, inner, hown, hreps⟩ := hra
          rw [len_many] at hown
          have hsh := reps_shape hreps
          obtain ⟨gl, cl, rfl, hcame, hcl, hcm, hgl⟩ := came_own hown (by decide)
          obtain ⟨E4, e4, E5, e5, hrow⟩ := hsh 0 (by decide)
          have y0 : w5.cell? ⟨gl, 0, none⟩ = some (.int .u8 2) := hcame.olds 0 _ (hrow 0 _ rfl)
          have y1 : w5.cell? ⟨gl, 1, none⟩ = some (.int .u8 0) := hcame.olds 1 _ (hrow 1 _ rfl)
          have y2 : w5.cell? ⟨gl, 2, none⟩ = some (.int .i64 1) := hcame.olds 2 _ (hrow 2 _ rfl)
          have y3 : w5.cell? ⟨gl, 3, none⟩ = some (.string ⟨#[]⟩) := hcame.olds 3 _ (hrow 3 _ rfl)
          have y4 : w5.cell? ⟨gl, 4, none⟩ = some (.slice E4 0 e4) := hcame.olds 4 _ (hrow 4 _ rfl)
          have y5 : w5.cell? ⟨gl, 5, none⟩ = some (.slice E5 0 e5) := hcame.olds 5 _ (hrow 5 _ rfl)
          have HOW := Aside0.mk hown
          have HSH := Aside0.mk hsh
          have HSP := Aside0.mk (shape_snoc (A4 := E4) (c4 := e4) (A5 := E5) (c5 := e5) hsh hown.1 rfl)
          have HBA := Aside0.mk (own_base hown gl rfl)
          have HBG := Aside0.mk (Nat.le_trans HB.out.size HBA.out)
          have HGL := Aside0.mk hgl
          clear hreps hown hsh hcame hcm hgl hb hrow HB HB2 HRD HH
          go_wp2_with (at_builtin; refine wp_append_keep _ 400 gl cl inner [.int .u8 2, .int .u8 0, .int .i64 1, .string ⟨#[]⟩, .slice E4 0 e4, .slice E5 0 e5] rfl (.tmp 137) (.tmp 141) rfl HOW.out (by decide) rfl rfl rfl (by intro u hu; simp only [List.mem_cons, List.not_mem_nil, or_false] at hu; rcases hu with rfl | rfl | rfl | rfl | rfl | rfl <;> rfl) (Nat.le_trans HBA.out (Nat.le_of_lt HGL.out)) (by decide) ?_)
          intro v6 w6 ho6 hg6 hk6
          obtain ⟨g6, c6, rfl, hC6⟩ := own_bare ho6 (by decide) HSP.out
          have hle6 : 401 ≤ c6 := by
            obtain ⟨_, _, he, _, hle, _⟩ := came_own ho6 (by decide)
            injection he with _ _ e3
            omega
          have hL6 : Kd.C k26 w6 (some ⟨gl, 0, none⟩) 400 manyA := by
            refine bare_rows (cs := inner) (by decide) (fun j hj => ?_) HSH.out
            have hl : j < inner.length := by rw [HOW.out.1]; exact hj
            rw [Nat.zero_add, List.getElem?_eq_getElem hl]
            exact hk6 j _ (List.getElem?_eq_getElem hl)
          have hM6 : Kd.C k26 w6 (some ⟨g6, 0, none⟩) (manyA ++ [dAct]).length (manyA ++ [dAct]) := by
            have e : manyA ++ [dAct] = List.replicate (400 + 1) dAct := (List.replicate_succ').symm
            rw [e, List.length_replicate]
            exact hC6
          have hlm : (manyA ++ [dAct]).length = 401 := by rw [List.length_append, len_many]; rfl
          rw [hlm] at hM6
          have HL6 := Aside0.mk hL6
          have HM6 := Aside0.mk hM6
          have HB6 := Aside0.mk ((below_alloc HB5.out _).grown hg6 (by have := HB5.out.size; simp; omega) (fun k hk => by injection hk with hk; subst hk; exact HBG.out))
          clear ho6 hg6 hk6 hC6 hL6 hM6 HB5 HSP HSH HOW HGL HBG HBA y0 y1 y2 y3 y4 y5
          go_wp2_with fail
          refine (encode_len _ c6 401 (manyA ++ [dAct]) _ hlm HM6.out ok_more).mono ?_
          rintro e w7 ⟨v7, rfl, hown7, hb7⟩
          rw [enc_more] at hown7 ⊢
          obtain ⟨A7, c7, rfl, _, _, _⟩ := own_reads2 hown7
          have HL7 := Aside0.mk (Kd.C_below HL6.out hb7)
          have HB7 := Aside0.mk (below_then HB6.out HB6.out.size hb7)
          clear hown7 hb7 HL6 HM6 HB6
          simp only [List.length_nil]
          go_wp2_with fail
          refine (encode_len _ cl 400 manyA _ len_many HL7.out ok_many).mono ?_
          rintro e w8 ⟨v8, rfl, hown8, hb8⟩
          rw [enc_many1] at hown8
          rw [enc_many2]
          obtain ⟨A8, c8, rfl, _, _, _⟩ := own_reads2 hown8
          have HB8 := Aside0.mk (below_then HB7.out HB7.out.size hb8)
          clear hown8 hb8 HL7 HB7
          go_wp2_with fail
          refine (decode_any none 0 0 [] _ ⟨rfl, by decide, fun h => absurd h (Nat.lt_irrefl 0)⟩ (Nat.le_refl _) (by decide) (fun h => absurd h (Nat.lt_irrefl 0)) (fun x hx => by cases hx)).mono ?_
          rintro e w9 ⟨v9, rfl, hra9, hb9⟩
          rw [dec_none] at hra9
          obtain ⟨A9, c9, rfl, _, _⟩ := Kd.R_reads hra9
          have HB9 := Aside0.mk (below_then HB8.out HB8.out.size hb9)
          clear hra9 hb9 HB8
          simp only [List.length_nil]
          go_wp2_with fail
          refine (awake_any _).mono ?_
          rintro e w10 ⟨rfl, hb10⟩
          have HB10 := Aside0.mk (below_then HB9.out HB9.out.size hb10)
          clear hb10 HB9
          go_wp2
          go_ret
          exact ⟨rfl, HB10.out⟩
end Go.Proofs.YtahfcdlggaoakaaDoor.Rd

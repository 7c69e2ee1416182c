/- The document's Bytes, walked: of a plain act it is putOf. Conditions: the act is plain. -/
import Derived.Test.YtahfcdlggaoakaaDoorPlR
import Derived.Test.YtahfcdlggaoakaaDoorPScriptEncodesx4
namespace Go.Proofs.YtahfcdlggaoakaaDoor.Rd
open Go.RowKit Go.Proofs.YtahfcdlggaoakaaDoorW.PrintWords Go.Proofs.YtahfcdlggaoakaaDoorW.PrintLast Go.Proofs.YtahfcdlggaoakaaDoorW.PrintMore
open Go.Proofs.YtahfcdlggaoakaaDoor.PScriptDecodes
set_option linter.unusedVariables false
set_option linter.unusedSimpArgs false

def TY6 : Bool × List (List Nat × List Nat) := (true, [([], []), ([], []), ([1], [1]), ([2], [2]), ([], []), ([3, 4], [3, 4]), ([5], [5]), ([6], [6]), ([0, 7], [0, 7]), ([], []), ([9], [9]), ([10], [10]), ([], []), ([11, 12], [11, 12]), ([13], [13]), ([14, 7], [14]), ([8, 15], [8, 15]), ([16, 15, 0, 1, 2, 3, 4, 5, 6, 7, 8, 9, 10, 11, 12, 13, 14, 15, 16], [0, 16])])
def BY6 : List Nat := [0, 0, 2, 6, 0, 30, 62, 126, 255, 0, 512, 1536, 0, 7680, 15872, 32510, 65535, 131071]
theorem tabY6 : rtab .any (opsOf Tryd.f30 6) = TY6 := by kernel_rfl
theorem bitsY6 : waitsOk TY6.2 BY6 = true := by kernel_rfl
def TY9 : Bool × List (List Nat × List Nat) := (true, [([], []), ([], []), ([1], [1]), ([2], [2]), ([3], [3]), ([4], [4]), ([0, 5], [0, 5]), ([], []), ([7], [7]), ([8], [8]), ([9], [9]), ([10, 5], [10]), ([6, 11], [6, 11]), ([], []), ([13], [13]), ([14], [14]), ([15, 11], [15]), ([12, 16], [12, 16]), ([], []), ([18], [18]), ([17, 19], [17, 19]), ([20, 16, 0, 1, 2, 3, 4, 5, 6, 7, 8, 9, 10, 11, 12, 13, 14, 15, 16, 17, 18, 19, 20], [20])])
def BY9 : List Nat := [0, 0, 2, 6, 14, 30, 63, 0, 128, 384, 896, 1982, 4095, 0, 8192, 24576, 61374, 131071, 0, 262144, 1048575, 2097151]
theorem tabY9 : rtab .any (opsOf Tryd.f30 9) = TY9 := by kernel_rfl
theorem bitsY9 : waitsOk TY9.2 BY9 = true := by kernel_rfl
def TY11 : Bool × List (List Nat × List Nat) := (true, [([], []), ([], []), ([1], [1]), ([2], [2]), ([3], [3]), ([4], [4]), ([0, 5], [0, 5]), ([], []), ([7], [7]), ([8, 5], [8]), ([6, 9], [6, 9]), ([10, 9, 0, 1, 2, 3, 4, 5, 6, 7, 8, 9, 10], [10])])
def BY11 : List Nat := [0, 0, 2, 6, 14, 30, 63, 0, 128, 446, 1023, 2047]
theorem tabY11 : rtab .any (opsOf Tryd.f30 11) = TY11 := by kernel_rfl
theorem bitsY11 : waitsOk TY11.2 BY11 = true := by kernel_rfl
def TY13 : Bool × List (List Nat × List Nat) := (true, [([], []), ([], []), ([1], [1]), ([2], [2]), ([3], [3]), ([4], [4]), ([0, 5], [0, 5]), ([], []), ([7], [7]), ([8, 5], [8]), ([6, 9], [6, 9]), ([], []), ([10, 11], [10, 11]), ([12, 9, 0, 1, 2, 3, 4, 5, 6, 7, 8, 9, 10, 11, 12], [12])])
def BY13 : List Nat := [0, 0, 2, 6, 14, 30, 63, 0, 128, 446, 1023, 0, 4095, 8191]
theorem tabY13 : rtab .any (opsOf Tryd.f30 13) = TY13 := by kernel_rfl
theorem bitsY13 : waitsOk TY13.2 BY13 = true := by kernel_rfl
def TY19 : Bool × List (List Nat × List Nat) := (true, [([], []), ([], []), ([1], [1]), ([2], [2]), ([3], [3]), ([0, 4], [0, 4]), ([], []), ([6], [6]), ([7, 4], [7]), ([5, 8], [5, 8]), ([9, 8, 0, 1, 2, 3, 4, 5, 6, 7, 8, 9], [9])])
def BY19 : List Nat := [0, 0, 2, 6, 14, 31, 0, 64, 222, 511, 1023]
theorem tabY19 : rtab .any (opsOf Tryd.f30 19) = TY19 := by kernel_rfl
theorem bitsY19 : waitsOk TY19.2 BY19 = true := by kernel_rfl

theorem one_eq (x : Int) (h0 : 0 ≤ x) (h1 : x ≤ 255) : PScriptEncodes.wapentakeref26_one.f x = some (strOfNums [x]) := by
  unfold PScriptEncodes.wapentakeref26_one.f
  rw [Int.emod_eq_of_lt h0 (by omega)]
theorem strOf_app (xs ys : List Int) : strOfNums xs ++ strOfNums ys = strOfNums (xs ++ ys) := by
  apply ByteArray.ext
  unfold strOfNums
  simp [ByteArray.data_append]
theorem one_to (i x : Int) (e : i = x) (h0 : 0 ≤ x) (h1 : x ≤ 255) (w : World) : Calls Tryd.prog 40 #[.int .i64 i] w fun e w' => e = .returned (.string (strOfNums [x])) ∧ Below w.heap.size w w' := by
  subst e
  exact PScriptEncodes.wapentakeref26_one.calls i _ w (one_eq i h0 h1)
theorem one_mod (i : Int) (w : World) : Calls Tryd.prog 40 #[.int .i64 i] w fun e w' => e = .returned (.string (strOfNums [i % 256])) ∧ Below w.heap.size w w' := PScriptEncodes.wapentakeref26_one.calls i _ w rfl
theorem lim (t : Nat) (h : t ≤ 1000000) : (9223372036854775807 < t) = False := by
  refine eq_false (fun h2 => ?_)
  exact absurd (Nat.lt_of_lt_of_le h2 h) (by decide)
/-- The act lies in block g. -/
structure BB (z w : World) (g : Nat) (cs : Array Value) : Prop where
  blk : w.heap[g]? = some (.cells cs 26 (0, 0))
  fr : Below z.heap.size z w
theorem BB.call {z w w' : World} {g : Nat} {cs : Array Value} (h : BB z w g cs) (hb : Below w.heap.size w w') : BB z w' g cs := ⟨blk_below h.blk hb, below_then h.fr h.fr.size hb⟩
theorem BB.cell {z w : World} {g : Nat} {cs : Array Value} (h : BB z w g cs) (i : Nat) {u : Value} (e : cs[i]? = some u) : w.cell? ⟨g, i, none⟩ = some u := (blk_cell h.blk i).trans e
/-- Its six cells. -/
def Box (g : Nat) (v0 v1 v2 v3 v4 v5 : Value) (w : World) : Prop :=
  w.cell? ⟨g, 0, none⟩ = some v0 ∧ w.cell? ⟨g, 1, none⟩ = some v1 ∧ w.cell? ⟨g, 2, none⟩ = some v2 ∧ w.cell? ⟨g, 3, none⟩ = some v3 ∧ w.cell? ⟨g, 4, none⟩ = some v4 ∧ w.cell? ⟨g, 5, none⟩ = some v5
theorem BB.box {z w : World} {g : Nat} {v0 v1 v2 v3 v4 v5 : Value} (h : BB z w g #[v0, v1, v2, v3, v4, v5]) : Box g v0 v1 v2 v3 v4 v5 w :=
  ⟨h.cell 0 rfl, h.cell 1 rfl, h.cell 2 rfl, h.cell 3 rfl, h.cell 4 rfl, h.cell 5 rfl⟩

set_option maxRecDepth 100000 in
set_option maxHeartbeats 8000000 in
theorem bytes_walk (k n num : Int) (txt : ByteArray) (A4 A5 : Option Addr) (c4 c5 : Nat) (ks ts : List Int) (z : World) (h4 : ReadsInt z .i64 A4 ks.length ks) (h5 : ReadsInt z .i64 A5 ts.length ts)
    (hn9 : 0 ≤ n) (hp : plainB k n num txt ks ts = true) :
    Calls Tryd.prog 30 #[.agg #[.int .u8 k, .int .u8 n, .int .i64 num, .string txt, .slice A4 ks.length c4, .slice A5 ts.length c5]] z fun e w' => e = .returned (.string (strOfNums (putOf k n num txt ks ts))) ∧ Below z.heap.size z w' := by
  obtain ⟨hk1, hk9, hno, hsm, _, hts, _, hle, hl8, _, hbad⟩ := (plainB_iff _ _ _ _ _ _).1 hp
  have hm : 0 ≤ num ∧ num ≤ 255 := by simpa [sml] using hsm
  obtain ⟨R, hR⟩ : ∃ R, R = strOfNums (putOf k n num txt ks ts) := ⟨_, rfl⟩
  rw [← hR]
  have HR := Aside0.mk hR
  have H : Aside0 (BB z (z.alloc (.cells #[.int .u8 k, .int .u8 n, .int .i64 num, .string txt, .slice A4 ks.length c4, .slice A5 ts.length c5] 26)) z.heap.size #[.int .u8 k, .int .u8 n, .int .i64 num, .string txt, .slice A4 ks.length c4, .slice A5 ts.length c5]) := ⟨⟨blk_new _ _, below_alloc (Below.refl _ _) _⟩⟩
  have HNO := Aside0.mk hno
  have HN9 := Aside0.mk hn9
  have HM := Aside0.mk hm
  have HTS := Aside0.mk hts
  have HLE := Aside0.mk hle
  have HBAD := Aside0.mk hbad
  have H4 := Aside0.mk h4
  have H5 := Aside0.mk h5
  obtain ⟨P, hP⟩ : ∃ P, P = strOfNums [k - 1] := ⟨_, rfl⟩
  have HP := Aside0.mk hP
  clear hR hno hn9 hm hsm hts hle hbad h4 h5 hp hP
  go_enter Tryd.func30, Tryd.ntmps30
  go_wp2_with fail
  obtain ⟨g, hg⟩ : ∃ g, g = z.heap.size := ⟨_, rfl⟩
  rw [← hg] at H ⊢
  have HZG := Aside0.mk hg
  clear hg
  refine (one_to _ (k - 1) (by first | rfl | go_num) (by omega) (by omega) _).mono ?_
  rintro e w1 ⟨rfl, hb⟩
  rw [← HP.out]
  have n0_ := Aside0.mk (H.out.call hb)
  clear H hb
  have H := n0_
  clear n0_
  have c4_ := H.out.cell 4 (u := .slice A4 ks.length c4) rfl
  go_wp2_with fail
  refine (one_to _ (ks.length : Int) (by first | rfl | go_num) (by omega) (by omega) _).mono ?_
  rintro e w2 ⟨rfl, hb⟩
  clear c4_
  have n0_ := Aside0.mk (H.out.call hb)
  clear H hb
  have H := n0_
  clear n0_
  go_wp2
  go_loopg [4, 5] ks.length (fun kq v4 v5 wr => ∃ (T : ByteArray) (j : Nat), v4 = .string T ∧ v5 = .int .i64 (j : Int) ∧ j + kq = ks.length ∧ Aside0 (T = strOfNums ([(ks.length : Int)] ++ pairBytes (ks.take j) (ts.take j))) ∧ Aside0 (BB z wr g #[.int .u8 k, .int .u8 n, .int .i64 num, .string txt, .slice A4 ks.length c4, .slice A5 ts.length c5]))
  case atStart => exact ⟨_, 0, rfl, rfl, by omega, ⟨by simp [pairBytes]⟩, H⟩
  case round =>
    clear H
    obtain ⟨T, j, rfl, rfl, hjk, HT, H⟩ := hrel
    have hTs : T.size ≤ 30 := by
      rw [HT.out, strOf_size]
      have := pairBytes_len2 (ks.take j) (ts.take j)
      simp only [List.length_append, List.length_cons, List.length_nil, List.length_take] at this ⊢
      omega
    by_cases hlt : j < ks.length
    · have hlt5 : j < ts.length := by have := HLE.out; omega
      obtain ⟨a4, rfl, r4⟩ := H4.out.2.2 (by omega)
      obtain ⟨a5, rfl, r5⟩ := H5.out.2.2 (by omega)
      have x4 : z.cell? (a4.add j) = some (.int .i64 (ks.getD j 0)) := r4 j hlt
      have x5 : z.cell? (a5.add j) = some (.int .i64 (ts.getD j 0)) := r5 j hlt5
      have hm4 : ks.getD j 0 ∈ ks := by rw [List.getD_eq_getElem?_getD, List.getElem?_eq_getElem hlt]; exact List.getElem_mem hlt
      have hm5 : ts.getD j 0 ∈ ts := by rw [List.getD_eq_getElem?_getD, List.getElem?_eq_getElem hlt5]; exact List.getElem_mem hlt5
      have gx := good_of HBAD.out (List.mem_append_left _ hm4)
      have gy := good_of HBAD.out (List.mem_append_right _ hm5)
      have HPB := Aside0.mk (pairBytes_snoc ks ts j hlt hlt5)
      have HJ := Aside0.mk hjk
      clear r4 r5 hm4 hm5 hjk
      generalize ks.getD j 0 = x at *
      generalize ts.getD j 0 = y at *
      have HGX := Aside0.mk gx
      have HGY := Aside0.mk gy
      have Z4 := Aside0.mk x4
      have Z5 := Aside0.mk x5
      clear gx gy x4 x5
      obtain ⟨X, hX⟩ : ∃ X, X = strOfNums [x] := ⟨_, rfl⟩
      obtain ⟨Y, hY⟩ : ∃ Y, Y = strOfNums [y] := ⟨_, rfl⟩
      have hXs : X.size = 1 := by rw [hX, strOf_size]; rfl
      have hYs : Y.size = 1 := by rw [hY, strOf_size]; rfl
      have HX := Aside0.mk hX
      have HY := Aside0.mk hY
      have g1 := lim (T.size + X.size) (by omega)
      have g2 := lim (T.size + X.size + Y.size) (by omega)
      have d1 : decide ((j : Int) < (ks.length : Int)) = true := decide_eq_true (by omega)
      have d2 : decide ((j : Int) < (ts.length : Int)) = true := decide_eq_true (by omega)
      have p1 := eq_true (by omega : (0 : Int) ≤ (j : Int))
      have q1 := eq_true (by omega : (j : Int) < (ks.length : Int))
      have q2 := eq_true (by omega : (j : Int) < (ts.length : Int))
      clear hX hY hXs hYs hTs
      have c4_ := H.out.cell 4 (u := .slice (some a4) ks.length c4) rfl
      have c5_ := H.out.cell 5 (u := .slice (some a5) ts.length c5) rfl
      go_wp2
      clear c4_ c5_
      have hb := below_drew (Below.refl wr.heap.size wr)
      have n0_ := Aside0.mk (H.out.call hb)
      clear H hb
      have H := n0_
      clear n0_
      refine start_ (n := 18) (S := fun w' => Box g (.int .u8 k) (.int .u8 n) (.int .i64 num) (.string txt) (.slice (some a4) ks.length c4) (.slice (some a5) ts.length c5) w' ∧ w'.cell? (a4.add j) = some (.int .i64 x) ∧ w'.cell? (a5.add j) = some (.int .i64 y)) (ds := []) #[false, false, false, false, false, false, false, false, false, false, false, false, false, false, false, false, false, false] (by kernel_rfl) rfl rfl ⟨H.out.box, (H.out.fr.cell (World.block_lt_of_cell? z _ Z4.out)).trans Z4.out, (H.out.fr.cell (World.block_lt_of_cell? z _ Z5.out)).trans Z5.out⟩ (fun hHeld => ?_)
      refine with_tabW tabY6 bitsY6 (fun HT_ HW_ => ?_)
      generalize World.drew _ = w5 at H hHeld ⊢
      refine pure_ (i := 0) (N := some 32) (v := ?_) (a' := ?_) #[true, false, false, false, false, false, false, false, false, false, false, false, false, false, false, false, false, false] rfl rfl (any_of HT_.out (by kernel_rfl)) (fun _ _ _ h => h) (Or.inl ⟨by rfl, ?_⟩) ?_ ?_
      rotate_left
      · intro w'
        go_simp
        with_reducible rfl
      rotate_left
      · simp only [Act.put, List.setIfInBounds_toArray, List.set_cons_zero, List.set_cons_succ, i64_w, i32_w]
        rfl
      refine pure_ (i := 1) (N := some 33) (v := ?_) (a' := ?_) #[true, true, false, false, false, false, false, false, false, false, false, false, false, false, false, false, false, false] rfl rfl (any_of HT_.out (by kernel_rfl)) (fun _ _ _ h => h) (Or.inl ⟨by rfl, ?_⟩) ?_ ?_
      rotate_left
      · intro w'
        go_simp
        with_reducible rfl
      rotate_left
      · simp only [Act.put, List.setIfInBounds_toArray, List.set_cons_zero, List.set_cons_succ, i64_w, i32_w]
        rfl
      refine pure_ (i := 2) (N := some 34) (v := ?_) (a' := ?_) #[true, true, true, false, false, false, false, false, false, false, false, false, false, false, false, false, false, false] rfl rfl (any_of HT_.out (by kernel_rfl)) (fun _ _ _ h => h) (Or.inl ⟨by rfl, ?_⟩) ?_ ?_
      rotate_left
      · intro w'
        go_simp
        with_reducible rfl
      rotate_left
      · simp only [Act.put, List.setIfInBounds_toArray, List.set_cons_zero, List.set_cons_succ, i64_w, i32_w]
        rfl
      refine pure_ (i := 4) (N := some 36) (v := ?_) (a' := ?_) #[true, true, true, false, true, false, false, false, false, false, false, false, false, false, false, false, false, false] rfl rfl (any_of HT_.out (by kernel_rfl)) (fun _ _ _ h => h) (Or.inl ⟨by rfl, ?_⟩) ?_ ?_
      rotate_left
      · intro w'
        go_simp
        with_reducible rfl
      rotate_left
      · simp only [Act.put, List.setIfInBounds_toArray, List.set_cons_zero, List.set_cons_succ, i64_w, i32_w]
        rfl
      refine pure_ (i := 9) (N := some 41) (v := ?_) (a' := ?_) #[true, true, true, false, true, false, false, false, false, true, false, false, false, false, false, false, false, false] rfl rfl (any_of HT_.out (by kernel_rfl)) (fun _ _ _ h => h) (Or.inl ⟨by rfl, ?_⟩) ?_ ?_
      rotate_left
      · intro w'
        go_simp
        with_reducible rfl
      rotate_left
      · simp only [Act.put, List.setIfInBounds_toArray, List.set_cons_zero, List.set_cons_succ, i64_w, i32_w]
        rfl
      refine pure_ (i := 10) (N := some 42) (v := ?_) (a' := ?_) #[true, true, true, false, true, false, false, false, false, true, true, false, false, false, false, false, false, false] rfl rfl (any_of HT_.out (by kernel_rfl)) (fun _ _ _ h => h) (Or.inl ⟨by rfl, ?_⟩) ?_ ?_
      rotate_left
      · intro w'
        go_simp
        with_reducible rfl
      rotate_left
      · simp only [Act.put, List.setIfInBounds_toArray, List.set_cons_zero, List.set_cons_succ, i64_w, i32_w]
        rfl
      refine pure_ (i := 12) (N := some 44) (v := ?_) (a' := ?_) #[true, true, true, false, true, false, false, false, false, true, true, false, true, false, false, false, false, false] rfl rfl (any_of HT_.out (by kernel_rfl)) (fun _ _ _ h => h) (Or.inl ⟨by rfl, ?_⟩) ?_ ?_
      rotate_left
      · intro w'
        go_simp
        with_reducible rfl
      rotate_left
      · simp only [Act.put, List.setIfInBounds_toArray, List.set_cons_zero, List.set_cons_succ, i64_w, i32_w]
        rfl
      refine take_ (i := 3) (N := some 35) (v := ?_) (a' := ?_) #[true, true, true, true, true, false, false, false, false, true, true, false, true, false, false, false, false, false] rfl rfl (take_ofW HT_.out HW_.out (by kernel_rfl)) (fun _ _ _ h => h) (Or.inl ⟨by rfl, ?_⟩) hHeld ?_ ?_
      rotate_left
      · rintro w' ⟨⟨s0, s1, s2, s3, s4, s5⟩, s6, s7⟩
        go_simp
        with_reducible rfl
      rotate_left
      · simp only [Act.put, List.setIfInBounds_toArray, List.set_cons_zero, List.set_cons_succ, i64_w, i32_w]
        rfl
      refine pure_ (i := 5) (N := some 37) (v := ?_) (a' := ?_) #[true, true, true, true, true, true, false, false, false, true, true, false, true, false, false, false, false, false] rfl rfl (any_of HT_.out (by kernel_rfl)) (fun _ _ _ h => h) (Or.inl ⟨by rfl, ?_⟩) ?_ ?_
      rotate_left
      · intro w'
        go_simp
        with_reducible rfl
      rotate_left
      · simp only [Act.put, List.setIfInBounds_toArray, List.set_cons_zero, List.set_cons_succ, i64_w, i32_w]
        rfl
      refine take_ (i := 6) (N := some 38) (v := ?_) (a' := ?_) #[true, true, true, true, true, true, true, false, false, true, true, false, true, false, false, false, false, false] rfl rfl (take_ofW HT_.out HW_.out (by kernel_rfl)) (fun _ _ _ h => h) (Or.inl ⟨by rfl, ?_⟩) hHeld ?_ ?_
      rotate_left
      · rintro w' ⟨⟨s0, s1, s2, s3, s4, s5⟩, s6, s7⟩
        go_simp
        with_reducible rfl
      rotate_left
      · simp only [Act.put, List.setIfInBounds_toArray, List.set_cons_zero, List.set_cons_succ, i64_w, i32_w]
        rfl
      refine take_ (i := 11) (N := some 43) (v := ?_) (a' := ?_) #[true, true, true, true, true, true, true, false, false, true, true, true, true, false, false, false, false, false] rfl rfl (take_ofW HT_.out HW_.out (by kernel_rfl)) (fun _ _ _ h => h) (Or.inl ⟨by rfl, ?_⟩) hHeld ?_ ?_
      rotate_left
      · rintro w' ⟨⟨s0, s1, s2, s3, s4, s5⟩, s6, s7⟩
        go_simp
        with_reducible rfl
      rotate_left
      · simp only [Act.put, List.setIfInBounds_toArray, List.set_cons_zero, List.set_cons_succ, i64_w, i32_w]
        rfl
      refine pure_ (i := 13) (N := some 45) (v := ?_) (a' := ?_) #[true, true, true, true, true, true, true, false, false, true, true, true, true, true, false, false, false, false] rfl rfl (any_of HT_.out (by kernel_rfl)) (fun _ _ _ h => h) (Or.inl ⟨by rfl, ?_⟩) ?_ ?_
      rotate_left
      · intro w'
        go_simp
        with_reducible rfl
      rotate_left
      · simp only [Act.put, List.setIfInBounds_toArray, List.set_cons_zero, List.set_cons_succ, i64_w, i32_w]
        rfl
      refine take_ (i := 14) (N := some 46) (v := ?_) (a' := ?_) #[true, true, true, true, true, true, true, false, false, true, true, true, true, true, true, false, false, false] rfl rfl (take_ofW HT_.out HW_.out (by kernel_rfl)) (fun _ _ _ h => h) (Or.inl ⟨by rfl, ?_⟩) hHeld ?_ ?_
      rotate_left
      · rintro w' ⟨⟨s0, s1, s2, s3, s4, s5⟩, s6, s7⟩
        go_simp
        with_reducible rfl
      rotate_left
      · simp only [Act.put, List.setIfInBounds_toArray, List.set_cons_zero, List.set_cons_succ, i64_w, i32_w]
        rfl
      refine one_ (i := 7) (N := some 39) #[true, true, true, true, true, true, true, true, false, true, true, true, true, true, true, false, false, false] rfl rfl (one_of HT_.out (by kernel_rfl)) (by decide) (fun K hK => ?_)
      refine goes_ Tryd.func40 (by kernel_rfl) rfl #[.int .i64 x] (by rfl) rfl rfl (by first | rfl | (simp only [List.map_toArray, List.map_cons, List.map_nil]; done) | (simp only [List.map_toArray, List.map_cons, List.map_nil]; rfl)) ?_
      refine (one_to _ x rfl HGX.out.1 HGX.out.2 _).mono ?_
      rintro e w6 ⟨rfl, hb⟩
      rw [← HX.out]
      refine ⟨_, rfl, ?_⟩
      have n0_ := Aside0.mk (H.out.call hb)
      clear H hb
      have H := n0_
      clear n0_
      refine hK.out _ _ ⟨H.out.box, (H.out.fr.cell (World.block_lt_of_cell? z _ Z4.out)).trans Z4.out, (H.out.fr.cell (World.block_lt_of_cell? z _ Z5.out)).trans Z5.out⟩ (fun hHeld => ?_)
      clear hK K
      refine norm_ (a' := ?_) ?_ ?_
      rotate_left
      · show Act.put _ (some 39) _ = _
        simp only [Act.put, List.setIfInBounds_toArray, List.set_cons_zero, List.set_cons_succ, i64_w, i32_w]
        rfl
      refine pure_ (i := 8) (N := some 40) (v := ?_) (a' := ?_) #[true, true, true, true, true, true, true, true, true, true, true, true, true, true, true, false, false, false] rfl rfl (any_of HT_.out (by kernel_rfl)) (fun _ _ _ h => h) (Or.inl ⟨by rfl, ?_⟩) ?_ ?_
      rotate_left
      · intro w'
        go_simp
        with_reducible rfl
      rotate_left
      · simp only [Act.put, List.setIfInBounds_toArray, List.set_cons_zero, List.set_cons_succ, i64_w, i32_w]
        rfl
      refine one_ (i := 15) (N := some 47) #[true, true, true, true, true, true, true, true, true, true, true, true, true, true, true, true, false, false] rfl rfl (one_of HT_.out (by kernel_rfl)) (by decide) (fun K hK => ?_)
      refine goes_ Tryd.func40 (by kernel_rfl) rfl #[.int .i64 y] (by rfl) rfl rfl (by first | rfl | (simp only [List.map_toArray, List.map_cons, List.map_nil]; done) | (simp only [List.map_toArray, List.map_cons, List.map_nil]; rfl)) ?_
      refine (one_to _ y rfl HGY.out.1 HGY.out.2 _).mono ?_
      rintro e w7 ⟨rfl, hb⟩
      rw [← HY.out]
      refine ⟨_, rfl, ?_⟩
      have n0_ := Aside0.mk (H.out.call hb)
      clear H hb
      have H := n0_
      clear n0_
      refine hK.out _ _ ⟨H.out.box, (H.out.fr.cell (World.block_lt_of_cell? z _ Z4.out)).trans Z4.out, (H.out.fr.cell (World.block_lt_of_cell? z _ Z5.out)).trans Z5.out⟩ (fun hHeld => ?_)
      clear hK K
      refine norm_ (a' := ?_) ?_ ?_
      rotate_left
      · show Act.put _ (some 47) _ = _
        simp only [Act.put, List.setIfInBounds_toArray, List.set_cons_zero, List.set_cons_succ, i64_w, i32_w]
        rfl
      refine pure_ (i := 16) (N := some 48) (v := ?_) (a' := ?_) #[true, true, true, true, true, true, true, true, true, true, true, true, true, true, true, true, true, false] rfl rfl (any_of HT_.out (by kernel_rfl)) (fun _ _ _ h => h) (Or.inl ⟨by rfl, ?_⟩) ?_ ?_
      rotate_left
      · intro w'
        go_simp
        with_reducible rfl
      rotate_left
      · simp only [Act.put, List.setIfInBounds_toArray, List.set_cons_zero, List.set_cons_succ, i64_w, i32_w]
        rfl
      refine pure_ (i := 17) (N := some 4) (v := ?_) (a' := ?_) #[true, true, true, true, true, true, true, true, true, true, true, true, true, true, true, true, true, true] rfl rfl (any_of HT_.out (by kernel_rfl)) (fun _ _ _ h => h) (Or.inl ⟨by rfl, ?_⟩) ?_ ?_
      rotate_left
      · intro w'
        go_simp
        with_reducible rfl
      rotate_left
      · simp only [Act.put, List.setIfInBounds_toArray, List.set_cons_zero, List.set_cons_succ, i64_w, i32_w]
        rfl
      refine done_ (done_of HT_.out (by kernel_rfl)) ?_
      clear HT_ HW_
      clear hHeld g1 g2 d1 d2 p1 q1 q2
      try go_wp2
      go_roundg (gk - 1)
      case measure => have := HJ.out; omega
      case rel => exact ⟨_, j + 1, rfl, by go_num, by have := HJ.out; omega, ⟨by rw [HT.out, HX.out, HY.out, strOf_app, strOf_app, HPB.out]; simp only [List.append_assoc, List.cons_append, List.nil_append]⟩, H⟩
    · have hjn : j = ks.length := by omega
      have HTC : Aside0 (T = strOfNums ([(ks.length : Int)] ++ pairBytes ks ts)) := ⟨by rw [HT.out, hjn, List.take_length, HLE.out, List.take_length]⟩
      have d1 : decide ((j : Int) < (ks.length : Int)) = false := decide_eq_false (by omega)
      clear HT hjk hjn
      have hPs : P.size = 1 := by rw [HP.out, strOf_size]; rfl
      have HPs := Aside0.mk hPs
      have HTs := Aside0.mk hTs
      clear hPs hTs
      have hc : k = 1 ∨ k = 2 ∨ k = 3 ∨ k = 4 ∨ k = 5 ∨ k = 6 ∨ k = 7 ∨ k = 8 ∨ k = 9 := by omega
      obtain ⟨M, hM⟩ : ∃ M, M = strOfNums [num] := ⟨_, rfl⟩
      have hMs : M.size = 1 := by rw [hM, strOf_size]; rfl
      have HMM := Aside0.mk hM
      have HMs := Aside0.mk hMs
      clear hM hMs hk1 hk9
      rcases hc with rfl | rfl | rfl | rfl | rfl | rfl | rfl | rfl | rfl
      · -- kind 1
        have hn : 1 ≤ n ∧ n ≤ 5 := by have := HNO.out; simpa [nodeOk] using this
        obtain ⟨N, hN⟩ : ∃ N, N = strOfNums [n - 1] := ⟨_, rfl⟩
        have hNs : N.size = 1 := by rw [hN, strOf_size]; rfl
        have HN := Aside0.mk hN
        have HNs := Aside0.mk hNs
        have hw : wrap64 (wrap64 n - 1) = n - 1 := by rw [w64 (x := n) (by omega) (by omega), w64 (x := n - 1) (by omega) (by omega)]
        have HW := Aside0.mk hw
        have HNN := Aside0.mk hn
        clear hN hNs hw hn
        obtain ⟨Q, hQ⟩ : ∃ Q, Q = strOfNums [(txt.size : Int) / 256] := ⟨_, rfl⟩
        have hQs : Q.size = 1 := by rw [hQ, strOf_size]; rfl
        have HQ := Aside0.mk hQ
        have HQs := Aside0.mk hQs
        obtain ⟨L, hL⟩ : ∃ L, L = strOfNums [(txt.size : Int) % 256] := ⟨_, rfl⟩
        have hLs : L.size = 1 := by rw [hL, strOf_size]; rfl
        have HLO := Aside0.mk hL
        have HLs := Aside0.mk hLs
        have hq : wrap64 ((txt.size : Int) / 256) = (txt.size : Int) / 256 := by have := HTS.out; exact w64 (by omega) (by omega)
        have HQW := Aside0.mk hq
        clear hQ hQs hL hLs hq
        have g2 := lim (P.size + N.size) (by have := HPs.out; have := HNs.out; omega)
        have g3 := lim (P.size + N.size + Q.size) (by have := HPs.out; have := HNs.out; have := HQs.out; omega)
        have g4 := lim (P.size + N.size + Q.size + L.size) (by have := HPs.out; have := HNs.out; have := HQs.out; have := HLs.out; omega)
        have g5 := lim (P.size + N.size + Q.size + L.size + txt.size) (by have := HPs.out; have := HNs.out; have := HQs.out; have := HLs.out; have := HTS.out; omega)
        have HF : Aside0 (P ++ N ++ Q ++ L ++ txt = R) := ⟨by rw [HR.out, putOf_1, HP.out, HN.out, HQ.out, HLO.out]; rw [strOf_app]; rw [strOf_app]; rw [strOf_app]; rw [show ∀ X, strOfNums X ++ txt = strOfNums (X ++ bytesOf txt) from fun X => by rw [← strOf_app, strOf_bytes]]; simp⟩
        have c4_ := H.out.cell 4 (u := .slice A4 ks.length c4) rfl
        have cc0 := H.out.cell 0 (u := .int .u8 1) rfl
        go_wp2
        clear cc0 c4_
        have hb := below_drew (Below.refl wr.heap.size wr)
        have n0_ := Aside0.mk (H.out.call hb)
        clear H hb
        have H := n0_
        clear n0_
        refine start_ (n := 22) (S := Box g (.int .u8 1) (.int .u8 n) (.int .i64 num) (.string txt) (.slice A4 ks.length c4) (.slice A5 ts.length c5)) (ds := []) #[false, false, false, false, false, false, false, false, false, false, false, false, false, false, false, false, false, false, false, false, false, false] (by kernel_rfl) rfl rfl H.out.box (fun hHeld => ?_)
        refine with_tabW tabY9 bitsY9 (fun HT_ HW_ => ?_)
        generalize World.drew _ = w5 at H hHeld ⊢
        refine pure_ (i := 0) (N := some 53) (v := ?_) (a' := ?_) #[true, false, false, false, false, false, false, false, false, false, false, false, false, false, false, false, false, false, false, false, false, false] rfl rfl (any_of HT_.out (by kernel_rfl)) (fun _ _ _ h => h) (Or.inl ⟨by rfl, ?_⟩) ?_ ?_
        rotate_left
        · intro w'
          go_simp
          with_reducible rfl
        rotate_left
        · simp only [Act.put, List.setIfInBounds_toArray, List.set_cons_zero, List.set_cons_succ, i64_w, i32_w]
          rfl
        refine pure_ (i := 1) (N := some 54) (v := ?_) (a' := ?_) #[true, true, false, false, false, false, false, false, false, false, false, false, false, false, false, false, false, false, false, false, false, false] rfl rfl (any_of HT_.out (by kernel_rfl)) (fun _ _ _ h => h) (Or.inl ⟨by rfl, ?_⟩) ?_ ?_
        rotate_left
        · intro w'
          go_simp
          with_reducible rfl
        rotate_left
        · simp only [Act.put, List.setIfInBounds_toArray, List.set_cons_zero, List.set_cons_succ, i64_w, i32_w]
          rfl
        refine pure_ (i := 7) (N := some 60) (v := ?_) (a' := ?_) #[true, true, false, false, false, false, false, true, false, false, false, false, false, false, false, false, false, false, false, false, false, false] rfl rfl (any_of HT_.out (by kernel_rfl)) (fun _ _ _ h => h) (Or.inl ⟨by rfl, ?_⟩) ?_ ?_
        rotate_left
        · intro w'
          go_simp
          with_reducible rfl
        rotate_left
        · simp only [Act.put, List.setIfInBounds_toArray, List.set_cons_zero, List.set_cons_succ, i64_w, i32_w]
          rfl
        refine pure_ (i := 13) (N := some 66) (v := ?_) (a' := ?_) #[true, true, false, false, false, false, false, true, false, false, false, false, false, true, false, false, false, false, false, false, false, false] rfl rfl (any_of HT_.out (by kernel_rfl)) (fun _ _ _ h => h) (Or.inl ⟨by rfl, ?_⟩) ?_ ?_
        rotate_left
        · intro w'
          go_simp
          with_reducible rfl
        rotate_left
        · simp only [Act.put, List.setIfInBounds_toArray, List.set_cons_zero, List.set_cons_succ, i64_w, i32_w]
          rfl
        refine pure_ (i := 18) (N := some 71) (v := ?_) (a' := ?_) #[true, true, false, false, false, false, false, true, false, false, false, false, false, true, false, false, false, false, true, false, false, false] rfl rfl (any_of HT_.out (by kernel_rfl)) (fun _ _ _ h => h) (Or.inl ⟨by rfl, ?_⟩) ?_ ?_
        rotate_left
        · intro w'
          go_simp
          with_reducible rfl
        rotate_left
        · simp only [Act.put, List.setIfInBounds_toArray, List.set_cons_zero, List.set_cons_succ, i64_w, i32_w]
          rfl
        refine take_ (i := 2) (N := some 55) (v := ?_) (a' := ?_) #[true, true, true, false, false, false, false, true, false, false, false, false, false, true, false, false, false, false, true, false, false, false] rfl rfl (take_ofW HT_.out HW_.out (by kernel_rfl)) (fun _ _ _ h => h) (Or.inl ⟨by rfl, ?_⟩) hHeld ?_ ?_
        rotate_left
        · rintro w' ⟨s0, s1, s2, s3, s4, s5⟩
          go_simp
          with_reducible rfl
        rotate_left
        · simp only [Act.put, List.setIfInBounds_toArray, List.set_cons_zero, List.set_cons_succ, i64_w, i32_w]
          rfl
        refine pure_ (i := 3) (N := some 56) (v := ?_) (a' := ?_) #[true, true, true, true, false, false, false, true, false, false, false, false, false, true, false, false, false, false, true, false, false, false] rfl rfl (any_of HT_.out (by kernel_rfl)) (fun _ _ _ h => h) (Or.inl ⟨by rfl, ?_⟩) ?_ ?_
        rotate_left
        · intro w'
          go_simp
          with_reducible rfl
        rotate_left
        · simp only [Act.put, List.setIfInBounds_toArray, List.set_cons_zero, List.set_cons_succ, i64_w, i32_w]
          rfl
        refine pure_ (i := 4) (N := some 57) (v := ?_) (a' := ?_) #[true, true, true, true, true, false, false, true, false, false, false, false, false, true, false, false, false, false, true, false, false, false] rfl rfl (any_of HT_.out (by kernel_rfl)) (fun _ _ _ h => h) (Or.inl ⟨by rfl, ?_⟩) ?_ ?_
        rotate_left
        · intro w'
          go_simp
          with_reducible rfl
        rotate_left
        · simp only [Act.put, List.setIfInBounds_toArray, List.set_cons_zero, List.set_cons_succ, i64_w, i32_w]
          rfl
        refine take_ (i := 8) (N := some 61) (v := ?_) (a' := ?_) #[true, true, true, true, true, false, false, true, true, false, false, false, false, true, false, false, false, false, true, false, false, false] rfl rfl (take_ofW HT_.out HW_.out (by kernel_rfl)) (fun _ _ _ h => h) (Or.inl ⟨by rfl, ?_⟩) hHeld ?_ ?_
        rotate_left
        · rintro w' ⟨s0, s1, s2, s3, s4, s5⟩
          go_simp
          with_reducible rfl
        rotate_left
        · simp only [Act.put, List.setIfInBounds_toArray, List.set_cons_zero, List.set_cons_succ, i64_w, i32_w]
          rfl
        refine pure_ (i := 9) (N := some 62) (v := ?_) (a' := ?_) #[true, true, true, true, true, false, false, true, true, true, false, false, false, true, false, false, false, false, true, false, false, false] rfl rfl (any_of HT_.out (by kernel_rfl)) (fun _ _ _ h => h) (Or.inl ⟨by rfl, ?_⟩) ?_ ?_
        rotate_left
        · intro w'
          go_simp
          with_reducible rfl
        rotate_left
        · simp only [Act.put, List.setIfInBounds_toArray, List.set_cons_zero, List.set_cons_succ, i64_w, i32_w]
          rfl
        refine pure_ (i := 10) (N := some 63) (v := ?_) (a' := ?_) #[true, true, true, true, true, false, false, true, true, true, true, false, false, true, false, false, false, false, true, false, false, false] rfl rfl (any_of HT_.out (by kernel_rfl)) (fun _ _ _ h => h) (Or.inl ⟨by rfl, ?_⟩) ?_ ?_
        rotate_left
        · intro w'
          go_simp
          with_reducible rfl
        rotate_left
        · simp only [Act.put, List.setIfInBounds_toArray, List.set_cons_zero, List.set_cons_succ, i64_w, i32_w]
          rfl
        refine take_ (i := 14) (N := some 67) (v := ?_) (a' := ?_) #[true, true, true, true, true, false, false, true, true, true, true, false, false, true, true, false, false, false, true, false, false, false] rfl rfl (take_ofW HT_.out HW_.out (by kernel_rfl)) (fun _ _ _ h => h) (Or.inl ⟨by rfl, ?_⟩) hHeld ?_ ?_
        rotate_left
        · rintro w' ⟨s0, s1, s2, s3, s4, s5⟩
          go_simp
          with_reducible rfl
        rotate_left
        · simp only [Act.put, List.setIfInBounds_toArray, List.set_cons_zero, List.set_cons_succ, i64_w, i32_w]
          rfl
        refine pure_ (i := 15) (N := some 68) (v := ?_) (a' := ?_) #[true, true, true, true, true, false, false, true, true, true, true, false, false, true, true, true, false, false, true, false, false, false] rfl rfl (any_of HT_.out (by kernel_rfl)) (fun _ _ _ h => h) (Or.inl ⟨by rfl, ?_⟩) ?_ ?_
        rotate_left
        · intro w'
          go_simp
          with_reducible rfl
        rotate_left
        · simp only [Act.put, List.setIfInBounds_toArray, List.set_cons_zero, List.set_cons_succ, i64_w, i32_w]
          rfl
        refine take_ (i := 19) (N := some 72) (v := ?_) (a' := ?_) #[true, true, true, true, true, false, false, true, true, true, true, false, false, true, true, true, false, false, true, true, false, false] rfl rfl (take_ofW HT_.out HW_.out (by kernel_rfl)) (fun _ _ _ h => h) (Or.inl ⟨by rfl, ?_⟩) hHeld ?_ ?_
        rotate_left
        · rintro w' ⟨s0, s1, s2, s3, s4, s5⟩
          go_simp
          with_reducible rfl
        rotate_left
        · simp only [Act.put, List.setIfInBounds_toArray, List.set_cons_zero, List.set_cons_succ, i64_w, i32_w]
          rfl
        refine one_ (i := 5) (N := some 58) #[true, true, true, true, true, true, false, true, true, true, true, false, false, true, true, true, false, false, true, true, false, false] rfl rfl (one_of HT_.out (by kernel_rfl)) (by decide) (fun K hK => ?_)
        refine goes_ Tryd.func40 (by kernel_rfl) rfl #[.int .i64 (wrap64 (wrap64 n - 1))] (by rfl) rfl rfl (by first | rfl | (simp only [List.map_toArray, List.map_cons, List.map_nil]; done) | (simp only [List.map_toArray, List.map_cons, List.map_nil]; rfl)) ?_
        refine (one_to _ (n - 1) HW.out (by have := HNN.out; omega) (by have := HNN.out; omega) _).mono ?_
        rintro e w6 ⟨rfl, hb⟩
        rw [← HN.out]
        refine ⟨_, rfl, ?_⟩
        have n0_ := Aside0.mk (H.out.call hb)
        clear H hb
        have H := n0_
        clear n0_
        refine hK.out _ _ H.out.box (fun hHeld => ?_)
        clear hK K
        refine norm_ (a' := ?_) ?_ ?_
        rotate_left
        · show Act.put _ (some 58) _ = _
          simp only [Act.put, List.setIfInBounds_toArray, List.set_cons_zero, List.set_cons_succ, i64_w, i32_w]
          rfl
        refine pure_ (i := 6) (N := some 59) (v := ?_) (a' := ?_) #[true, true, true, true, true, true, true, true, true, true, true, false, false, true, true, true, false, false, true, true, false, false] rfl rfl (any_of HT_.out (by kernel_rfl)) (fun _ _ _ h => h) (Or.inl ⟨by rfl, ?_⟩) ?_ ?_
        rotate_left
        · intro w'
          go_simp
          with_reducible rfl
        rotate_left
        · simp only [Act.put, List.setIfInBounds_toArray, List.set_cons_zero, List.set_cons_succ, i64_w, i32_w]
          rfl
        refine one_ (i := 11) (N := some 64) #[true, true, true, true, true, true, true, true, true, true, true, true, false, true, true, true, false, false, true, true, false, false] rfl rfl (one_of HT_.out (by kernel_rfl)) (by decide) (fun K hK => ?_)
        refine goes_ Tryd.func40 (by kernel_rfl) rfl #[.int .i64 (wrap64 ((txt.size : Int) / 256))] (by rfl) rfl rfl (by first | rfl | (simp only [List.map_toArray, List.map_cons, List.map_nil]; done) | (simp only [List.map_toArray, List.map_cons, List.map_nil]; rfl)) ?_
        refine (one_to _ ((txt.size : Int) / 256) HQW.out (by omega) (by have := HTS.out; omega) _).mono ?_
        rintro e w7 ⟨rfl, hb⟩
        rw [← HQ.out]
        refine ⟨_, rfl, ?_⟩
        have n0_ := Aside0.mk (H.out.call hb)
        clear H hb
        have H := n0_
        clear n0_
        refine hK.out _ _ H.out.box (fun hHeld => ?_)
        clear hK K
        refine norm_ (a' := ?_) ?_ ?_
        rotate_left
        · show Act.put _ (some 64) _ = _
          simp only [Act.put, List.setIfInBounds_toArray, List.set_cons_zero, List.set_cons_succ, i64_w, i32_w]
          rfl
        refine pure_ (i := 12) (N := some 65) (v := ?_) (a' := ?_) #[true, true, true, true, true, true, true, true, true, true, true, true, true, true, true, true, false, false, true, true, false, false] rfl rfl (any_of HT_.out (by kernel_rfl)) (fun _ _ _ h => h) (Or.inl ⟨by rfl, ?_⟩) ?_ ?_
        rotate_left
        · intro w'
          go_simp
          with_reducible rfl
        rotate_left
        · simp only [Act.put, List.setIfInBounds_toArray, List.set_cons_zero, List.set_cons_succ, i64_w, i32_w]
          rfl
        refine one_ (i := 16) (N := some 69) #[true, true, true, true, true, true, true, true, true, true, true, true, true, true, true, true, true, false, true, true, false, false] rfl rfl (one_of HT_.out (by kernel_rfl)) (by decide) (fun K hK => ?_)
        refine goes_ Tryd.func40 (by kernel_rfl) rfl #[.int .i64 (txt.size : Int)] (by rfl) rfl rfl (by first | rfl | (simp only [List.map_toArray, List.map_cons, List.map_nil]; done) | (simp only [List.map_toArray, List.map_cons, List.map_nil]; rfl)) ?_
        refine (one_mod (txt.size : Int) _).mono ?_
        rintro e w8 ⟨rfl, hb⟩
        rw [← HLO.out]
        refine ⟨_, rfl, ?_⟩
        have n0_ := Aside0.mk (H.out.call hb)
        clear H hb
        have H := n0_
        clear n0_
        refine hK.out _ _ H.out.box (fun hHeld => ?_)
        clear hK K
        refine norm_ (a' := ?_) ?_ ?_
        rotate_left
        · show Act.put _ (some 69) _ = _
          simp only [Act.put, List.setIfInBounds_toArray, List.set_cons_zero, List.set_cons_succ, i64_w, i32_w]
          rfl
        refine pure_ (i := 17) (N := some 70) (v := ?_) (a' := ?_) #[true, true, true, true, true, true, true, true, true, true, true, true, true, true, true, true, true, true, true, true, false, false] rfl rfl (any_of HT_.out (by kernel_rfl)) (fun _ _ _ h => h) (Or.inl ⟨by rfl, ?_⟩) ?_ ?_
        rotate_left
        · intro w'
          go_simp
          with_reducible rfl
        rotate_left
        · simp only [Act.put, List.setIfInBounds_toArray, List.set_cons_zero, List.set_cons_succ, i64_w, i32_w]
          rfl
        refine pure_ (i := 20) (N := some 73) (v := ?_) (a' := ?_) #[true, true, true, true, true, true, true, true, true, true, true, true, true, true, true, true, true, true, true, true, true, false] rfl rfl (any_of HT_.out (by kernel_rfl)) (fun _ _ _ h => h) (Or.inl ⟨by rfl, ?_⟩) ?_ ?_
        rotate_left
        · intro w'
          go_simp
          with_reducible rfl
        rotate_left
        · simp only [Act.put, List.setIfInBounds_toArray, List.set_cons_zero, List.set_cons_succ, i64_w, i32_w]
          rfl
        refine pure_ (i := 21) (N := some 2) (v := ?_) (a' := ?_) #[true, true, true, true, true, true, true, true, true, true, true, true, true, true, true, true, true, true, true, true, true, true] rfl rfl (any_of HT_.out (by kernel_rfl)) (fun _ _ _ h => h) (Or.inl ⟨by rfl, ?_⟩) ?_ ?_
        rotate_left
        · intro w'
          go_simp
          with_reducible rfl
        rotate_left
        · simp only [Act.put, List.setIfInBounds_toArray, List.set_cons_zero, List.set_cons_succ, i64_w, i32_w]
          rfl
        refine done_ (done_of HT_.out (by kernel_rfl)) ?_
        clear HT_ HW_
        clear hHeld g2 g3 g4 g5
        try go_wp2
        go_ret
        exact ⟨by rw [HF.out]; rfl, H.out.fr⟩
      · -- kind 2
        have g2 := lim (P.size + M.size) (by have := HPs.out; have := HMs.out; omega)
        have HF : Aside0 (P ++ M = R) := ⟨by rw [HR.out, putOf_2, HP.out, HMM.out]; rw [strOf_app]; rfl⟩
        have c4_ := H.out.cell 4 (u := .slice A4 ks.length c4) rfl
        have cc0 := H.out.cell 0 (u := .int .u8 2) rfl
        have cc2 := H.out.cell 2 (u := .int .i64 num) rfl
        go_wp2_with fail
        refine (one_to _ num rfl HM.out.1 HM.out.2 _).mono ?_
        rintro e w6 ⟨rfl, hb⟩
        rw [← HMM.out]
        clear cc0 cc2 c4_
        have n0_ := Aside0.mk (H.out.call hb)
        clear H hb
        have H := n0_
        clear n0_
        go_wp2
        go_ret
        exact ⟨by rw [HF.out]; rfl, H.out.fr⟩
      · -- kind 3
        have g2 := lim (P.size + M.size) (by have := HPs.out; have := HMs.out; omega)
        have HF : Aside0 (P ++ M = R) := ⟨by rw [HR.out, putOf_3, HP.out, HMM.out]; rw [strOf_app]; rfl⟩
        have c4_ := H.out.cell 4 (u := .slice A4 ks.length c4) rfl
        have cc0 := H.out.cell 0 (u := .int .u8 3) rfl
        have cc2 := H.out.cell 2 (u := .int .i64 num) rfl
        go_wp2_with fail
        refine (one_to _ num rfl HM.out.1 HM.out.2 _).mono ?_
        rintro e w6 ⟨rfl, hb⟩
        rw [← HMM.out]
        clear cc0 cc2 c4_
        have n0_ := Aside0.mk (H.out.call hb)
        clear H hb
        have H := n0_
        clear n0_
        go_wp2
        go_ret
        exact ⟨by rw [HF.out]; rfl, H.out.fr⟩
      · -- kind 4
        have g2 := lim (P.size + M.size) (by have := HPs.out; have := HMs.out; omega)
        have HF : Aside0 (P ++ M = R) := ⟨by rw [HR.out, putOf_4, HP.out, HMM.out]; rw [strOf_app]; rfl⟩
        have c4_ := H.out.cell 4 (u := .slice A4 ks.length c4) rfl
        have cc0 := H.out.cell 0 (u := .int .u8 4) rfl
        have cc2 := H.out.cell 2 (u := .int .i64 num) rfl
        go_wp2_with fail
        refine (one_to _ num rfl HM.out.1 HM.out.2 _).mono ?_
        rintro e w6 ⟨rfl, hb⟩
        rw [← HMM.out]
        clear cc0 cc2 c4_
        have n0_ := Aside0.mk (H.out.call hb)
        clear H hb
        have H := n0_
        clear n0_
        go_wp2
        go_ret
        exact ⟨by rw [HF.out]; rfl, H.out.fr⟩
      · -- kind 5
        have hn : 1 ≤ n ∧ n ≤ 5 := by have := HNO.out; simpa [nodeOk] using this
        obtain ⟨N, hN⟩ : ∃ N, N = strOfNums [n - 1] := ⟨_, rfl⟩
        have hNs : N.size = 1 := by rw [hN, strOf_size]; rfl
        have HN := Aside0.mk hN
        have HNs := Aside0.mk hNs
        have hw : wrap64 (wrap64 n - 1) = n - 1 := by rw [w64 (x := n) (by omega) (by omega), w64 (x := n - 1) (by omega) (by omega)]
        have HW := Aside0.mk hw
        have HNN := Aside0.mk hn
        clear hN hNs hw hn
        have g2 := lim (P.size + N.size) (by have := HPs.out; have := HNs.out; omega)
        have g3 := lim (P.size + N.size + M.size) (by have := HPs.out; have := HNs.out; have := HMs.out; omega)
        have HF : Aside0 (P ++ N ++ M = R) := ⟨by rw [HR.out, putOf_5, HP.out, HN.out, HMM.out]; rw [strOf_app]; rw [strOf_app]; rfl⟩
        have c4_ := H.out.cell 4 (u := .slice A4 ks.length c4) rfl
        have cc0 := H.out.cell 0 (u := .int .u8 5) rfl
        go_wp2
        clear cc0 c4_
        have hb := below_drew (Below.refl wr.heap.size wr)
        have n0_ := Aside0.mk (H.out.call hb)
        clear H hb
        have H := n0_
        clear n0_
        refine start_ (n := 12) (S := Box g (.int .u8 5) (.int .u8 n) (.int .i64 num) (.string txt) (.slice A4 ks.length c4) (.slice A5 ts.length c5)) (ds := []) #[false, false, false, false, false, false, false, false, false, false, false, false] (by kernel_rfl) rfl rfl H.out.box (fun hHeld => ?_)
        refine with_tabW tabY11 bitsY11 (fun HT_ HW_ => ?_)
        generalize World.drew _ = w5 at H hHeld ⊢
        refine pure_ (i := 0) (N := some 76) (v := ?_) (a' := ?_) #[true, false, false, false, false, false, false, false, false, false, false, false] rfl rfl (any_of HT_.out (by kernel_rfl)) (fun _ _ _ h => h) (Or.inl ⟨by rfl, ?_⟩) ?_ ?_
        rotate_left
        · intro w'
          go_simp
          with_reducible rfl
        rotate_left
        · simp only [Act.put, List.setIfInBounds_toArray, List.set_cons_zero, List.set_cons_succ, i64_w, i32_w]
          rfl
        refine pure_ (i := 1) (N := some 77) (v := ?_) (a' := ?_) #[true, true, false, false, false, false, false, false, false, false, false, false] rfl rfl (any_of HT_.out (by kernel_rfl)) (fun _ _ _ h => h) (Or.inl ⟨by rfl, ?_⟩) ?_ ?_
        rotate_left
        · intro w'
          go_simp
          with_reducible rfl
        rotate_left
        · simp only [Act.put, List.setIfInBounds_toArray, List.set_cons_zero, List.set_cons_succ, i64_w, i32_w]
          rfl
        refine pure_ (i := 7) (N := some 83) (v := ?_) (a' := ?_) #[true, true, false, false, false, false, false, true, false, false, false, false] rfl rfl (any_of HT_.out (by kernel_rfl)) (fun _ _ _ h => h) (Or.inl ⟨by rfl, ?_⟩) ?_ ?_
        rotate_left
        · intro w'
          go_simp
          with_reducible rfl
        rotate_left
        · simp only [Act.put, List.setIfInBounds_toArray, List.set_cons_zero, List.set_cons_succ, i64_w, i32_w]
          rfl
        refine take_ (i := 2) (N := some 78) (v := ?_) (a' := ?_) #[true, true, true, false, false, false, false, true, false, false, false, false] rfl rfl (take_ofW HT_.out HW_.out (by kernel_rfl)) (fun _ _ _ h => h) (Or.inl ⟨by rfl, ?_⟩) hHeld ?_ ?_
        rotate_left
        · rintro w' ⟨s0, s1, s2, s3, s4, s5⟩
          go_simp
          with_reducible rfl
        rotate_left
        · simp only [Act.put, List.setIfInBounds_toArray, List.set_cons_zero, List.set_cons_succ, i64_w, i32_w]
          rfl
        refine pure_ (i := 3) (N := some 79) (v := ?_) (a' := ?_) #[true, true, true, true, false, false, false, true, false, false, false, false] rfl rfl (any_of HT_.out (by kernel_rfl)) (fun _ _ _ h => h) (Or.inl ⟨by rfl, ?_⟩) ?_ ?_
        rotate_left
        · intro w'
          go_simp
          with_reducible rfl
        rotate_left
        · simp only [Act.put, List.setIfInBounds_toArray, List.set_cons_zero, List.set_cons_succ, i64_w, i32_w]
          rfl
        refine pure_ (i := 4) (N := some 80) (v := ?_) (a' := ?_) #[true, true, true, true, true, false, false, true, false, false, false, false] rfl rfl (any_of HT_.out (by kernel_rfl)) (fun _ _ _ h => h) (Or.inl ⟨by rfl, ?_⟩) ?_ ?_
        rotate_left
        · intro w'
          go_simp
          with_reducible rfl
        rotate_left
        · simp only [Act.put, List.setIfInBounds_toArray, List.set_cons_zero, List.set_cons_succ, i64_w, i32_w]
          rfl
        refine take_ (i := 8) (N := some 84) (v := ?_) (a' := ?_) #[true, true, true, true, true, false, false, true, true, false, false, false] rfl rfl (take_ofW HT_.out HW_.out (by kernel_rfl)) (fun _ _ _ h => h) (Or.inl ⟨by rfl, ?_⟩) hHeld ?_ ?_
        rotate_left
        · rintro w' ⟨s0, s1, s2, s3, s4, s5⟩
          go_simp
          with_reducible rfl
        rotate_left
        · simp only [Act.put, List.setIfInBounds_toArray, List.set_cons_zero, List.set_cons_succ, i64_w, i32_w]
          rfl
        refine one_ (i := 5) (N := some 81) #[true, true, true, true, true, true, false, true, true, false, false, false] rfl rfl (one_of HT_.out (by kernel_rfl)) (by decide) (fun K hK => ?_)
        refine goes_ Tryd.func40 (by kernel_rfl) rfl #[.int .i64 (wrap64 (wrap64 n - 1))] (by rfl) rfl rfl (by first | rfl | (simp only [List.map_toArray, List.map_cons, List.map_nil]; done) | (simp only [List.map_toArray, List.map_cons, List.map_nil]; rfl)) ?_
        refine (one_to _ (n - 1) HW.out (by have := HNN.out; omega) (by have := HNN.out; omega) _).mono ?_
        rintro e w6 ⟨rfl, hb⟩
        rw [← HN.out]
        refine ⟨_, rfl, ?_⟩
        have n0_ := Aside0.mk (H.out.call hb)
        clear H hb
        have H := n0_
        clear n0_
        refine hK.out _ _ H.out.box (fun hHeld => ?_)
        clear hK K
        refine norm_ (a' := ?_) ?_ ?_
        rotate_left
        · show Act.put _ (some 81) _ = _
          simp only [Act.put, List.setIfInBounds_toArray, List.set_cons_zero, List.set_cons_succ, i64_w, i32_w]
          rfl
        refine pure_ (i := 6) (N := some 82) (v := ?_) (a' := ?_) #[true, true, true, true, true, true, true, true, true, false, false, false] rfl rfl (any_of HT_.out (by kernel_rfl)) (fun _ _ _ h => h) (Or.inl ⟨by rfl, ?_⟩) ?_ ?_
        rotate_left
        · intro w'
          go_simp
          with_reducible rfl
        rotate_left
        · simp only [Act.put, List.setIfInBounds_toArray, List.set_cons_zero, List.set_cons_succ, i64_w, i32_w]
          rfl
        refine one_ (i := 9) (N := some 85) #[true, true, true, true, true, true, true, true, true, true, false, false] rfl rfl (one_of HT_.out (by kernel_rfl)) (by decide) (fun K hK => ?_)
        refine goes_ Tryd.func40 (by kernel_rfl) rfl #[.int .i64 num] (by rfl) rfl rfl (by first | rfl | (simp only [List.map_toArray, List.map_cons, List.map_nil]; done) | (simp only [List.map_toArray, List.map_cons, List.map_nil]; rfl)) ?_
        refine (one_to _ num rfl HM.out.1 HM.out.2 _).mono ?_
        rintro e w7 ⟨rfl, hb⟩
        rw [← HMM.out]
        refine ⟨_, rfl, ?_⟩
        have n0_ := Aside0.mk (H.out.call hb)
        clear H hb
        have H := n0_
        clear n0_
        refine hK.out _ _ H.out.box (fun hHeld => ?_)
        clear hK K
        refine norm_ (a' := ?_) ?_ ?_
        rotate_left
        · show Act.put _ (some 85) _ = _
          simp only [Act.put, List.setIfInBounds_toArray, List.set_cons_zero, List.set_cons_succ, i64_w, i32_w]
          rfl
        refine pure_ (i := 10) (N := some 86) (v := ?_) (a' := ?_) #[true, true, true, true, true, true, true, true, true, true, true, false] rfl rfl (any_of HT_.out (by kernel_rfl)) (fun _ _ _ h => h) (Or.inl ⟨by rfl, ?_⟩) ?_ ?_
        rotate_left
        · intro w'
          go_simp
          with_reducible rfl
        rotate_left
        · simp only [Act.put, List.setIfInBounds_toArray, List.set_cons_zero, List.set_cons_succ, i64_w, i32_w]
          rfl
        refine pure_ (i := 11) (N := some 2) (v := ?_) (a' := ?_) #[true, true, true, true, true, true, true, true, true, true, true, true] rfl rfl (any_of HT_.out (by kernel_rfl)) (fun _ _ _ h => h) (Or.inl ⟨by rfl, ?_⟩) ?_ ?_
        rotate_left
        · intro w'
          go_simp
          with_reducible rfl
        rotate_left
        · simp only [Act.put, List.setIfInBounds_toArray, List.set_cons_zero, List.set_cons_succ, i64_w, i32_w]
          rfl
        refine done_ (done_of HT_.out (by kernel_rfl)) ?_
        clear HT_ HW_
        clear hHeld g2 g3
        try go_wp2
        go_ret
        exact ⟨by rw [HF.out]; rfl, H.out.fr⟩
      · -- kind 6
        have hn : 1 ≤ n ∧ n ≤ 5 := by have := HNO.out; simpa [nodeOk] using this
        obtain ⟨N, hN⟩ : ∃ N, N = strOfNums [n - 1] := ⟨_, rfl⟩
        have hNs : N.size = 1 := by rw [hN, strOf_size]; rfl
        have HN := Aside0.mk hN
        have HNs := Aside0.mk hNs
        have hw : wrap64 (wrap64 n - 1) = n - 1 := by rw [w64 (x := n) (by omega) (by omega), w64 (x := n - 1) (by omega) (by omega)]
        have HW := Aside0.mk hw
        have HNN := Aside0.mk hn
        clear hN hNs hw hn
        have g2 := lim (P.size + N.size) (by have := HPs.out; have := HNs.out; omega)
        have g3 := lim (P.size + N.size + M.size) (by have := HPs.out; have := HNs.out; have := HMs.out; omega)
        have g4 := lim (P.size + N.size + M.size + T.size) (by have := HPs.out; have := HNs.out; have := HMs.out; have := HTs.out; omega)
        have HF : Aside0 (P ++ N ++ M ++ T = R) := ⟨by rw [HR.out, putOf_6, HP.out, HN.out, HMM.out, HTC.out]; rw [strOf_app]; rw [strOf_app]; rw [strOf_app]; rfl⟩
        have c4_ := H.out.cell 4 (u := .slice A4 ks.length c4) rfl
        have cc0 := H.out.cell 0 (u := .int .u8 6) rfl
        go_wp2
        clear cc0 c4_
        have hb := below_drew (Below.refl wr.heap.size wr)
        have n0_ := Aside0.mk (H.out.call hb)
        clear H hb
        have H := n0_
        clear n0_
        refine start_ (n := 14) (S := Box g (.int .u8 6) (.int .u8 n) (.int .i64 num) (.string txt) (.slice A4 ks.length c4) (.slice A5 ts.length c5)) (ds := []) #[false, false, false, false, false, false, false, false, false, false, false, false, false, false] (by kernel_rfl) rfl rfl H.out.box (fun hHeld => ?_)
        refine with_tabW tabY13 bitsY13 (fun HT_ HW_ => ?_)
        generalize World.drew _ = w5 at H hHeld ⊢
        refine pure_ (i := 0) (N := some 89) (v := ?_) (a' := ?_) #[true, false, false, false, false, false, false, false, false, false, false, false, false, false] rfl rfl (any_of HT_.out (by kernel_rfl)) (fun _ _ _ h => h) (Or.inl ⟨by rfl, ?_⟩) ?_ ?_
        rotate_left
        · intro w'
          go_simp
          with_reducible rfl
        rotate_left
        · simp only [Act.put, List.setIfInBounds_toArray, List.set_cons_zero, List.set_cons_succ, i64_w, i32_w]
          rfl
        refine pure_ (i := 1) (N := some 90) (v := ?_) (a' := ?_) #[true, true, false, false, false, false, false, false, false, false, false, false, false, false] rfl rfl (any_of HT_.out (by kernel_rfl)) (fun _ _ _ h => h) (Or.inl ⟨by rfl, ?_⟩) ?_ ?_
        rotate_left
        · intro w'
          go_simp
          with_reducible rfl
        rotate_left
        · simp only [Act.put, List.setIfInBounds_toArray, List.set_cons_zero, List.set_cons_succ, i64_w, i32_w]
          rfl
        refine pure_ (i := 7) (N := some 96) (v := ?_) (a' := ?_) #[true, true, false, false, false, false, false, true, false, false, false, false, false, false] rfl rfl (any_of HT_.out (by kernel_rfl)) (fun _ _ _ h => h) (Or.inl ⟨by rfl, ?_⟩) ?_ ?_
        rotate_left
        · intro w'
          go_simp
          with_reducible rfl
        rotate_left
        · simp only [Act.put, List.setIfInBounds_toArray, List.set_cons_zero, List.set_cons_succ, i64_w, i32_w]
          rfl
        refine pure_ (i := 11) (N := some 100) (v := ?_) (a' := ?_) #[true, true, false, false, false, false, false, true, false, false, false, true, false, false] rfl rfl (any_of HT_.out (by kernel_rfl)) (fun _ _ _ h => h) (Or.inl ⟨by rfl, ?_⟩) ?_ ?_
        rotate_left
        · intro w'
          go_simp
          with_reducible rfl
        rotate_left
        · simp only [Act.put, List.setIfInBounds_toArray, List.set_cons_zero, List.set_cons_succ, i64_w, i32_w]
          rfl
        refine take_ (i := 2) (N := some 91) (v := ?_) (a' := ?_) #[true, true, true, false, false, false, false, true, false, false, false, true, false, false] rfl rfl (take_ofW HT_.out HW_.out (by kernel_rfl)) (fun _ _ _ h => h) (Or.inl ⟨by rfl, ?_⟩) hHeld ?_ ?_
        rotate_left
        · rintro w' ⟨s0, s1, s2, s3, s4, s5⟩
          go_simp
          with_reducible rfl
        rotate_left
        · simp only [Act.put, List.setIfInBounds_toArray, List.set_cons_zero, List.set_cons_succ, i64_w, i32_w]
          rfl
        refine pure_ (i := 3) (N := some 92) (v := ?_) (a' := ?_) #[true, true, true, true, false, false, false, true, false, false, false, true, false, false] rfl rfl (any_of HT_.out (by kernel_rfl)) (fun _ _ _ h => h) (Or.inl ⟨by rfl, ?_⟩) ?_ ?_
        rotate_left
        · intro w'
          go_simp
          with_reducible rfl
        rotate_left
        · simp only [Act.put, List.setIfInBounds_toArray, List.set_cons_zero, List.set_cons_succ, i64_w, i32_w]
          rfl
        refine pure_ (i := 4) (N := some 93) (v := ?_) (a' := ?_) #[true, true, true, true, true, false, false, true, false, false, false, true, false, false] rfl rfl (any_of HT_.out (by kernel_rfl)) (fun _ _ _ h => h) (Or.inl ⟨by rfl, ?_⟩) ?_ ?_
        rotate_left
        · intro w'
          go_simp
          with_reducible rfl
        rotate_left
        · simp only [Act.put, List.setIfInBounds_toArray, List.set_cons_zero, List.set_cons_succ, i64_w, i32_w]
          rfl
        refine take_ (i := 8) (N := some 97) (v := ?_) (a' := ?_) #[true, true, true, true, true, false, false, true, true, false, false, true, false, false] rfl rfl (take_ofW HT_.out HW_.out (by kernel_rfl)) (fun _ _ _ h => h) (Or.inl ⟨by rfl, ?_⟩) hHeld ?_ ?_
        rotate_left
        · rintro w' ⟨s0, s1, s2, s3, s4, s5⟩
          go_simp
          with_reducible rfl
        rotate_left
        · simp only [Act.put, List.setIfInBounds_toArray, List.set_cons_zero, List.set_cons_succ, i64_w, i32_w]
          rfl
        refine one_ (i := 5) (N := some 94) #[true, true, true, true, true, true, false, true, true, false, false, true, false, false] rfl rfl (one_of HT_.out (by kernel_rfl)) (by decide) (fun K hK => ?_)
        refine goes_ Tryd.func40 (by kernel_rfl) rfl #[.int .i64 (wrap64 (wrap64 n - 1))] (by rfl) rfl rfl (by first | rfl | (simp only [List.map_toArray, List.map_cons, List.map_nil]; done) | (simp only [List.map_toArray, List.map_cons, List.map_nil]; rfl)) ?_
        refine (one_to _ (n - 1) HW.out (by have := HNN.out; omega) (by have := HNN.out; omega) _).mono ?_
        rintro e w6 ⟨rfl, hb⟩
        rw [← HN.out]
        refine ⟨_, rfl, ?_⟩
        have n0_ := Aside0.mk (H.out.call hb)
        clear H hb
        have H := n0_
        clear n0_
        refine hK.out _ _ H.out.box (fun hHeld => ?_)
        clear hK K
        refine norm_ (a' := ?_) ?_ ?_
        rotate_left
        · show Act.put _ (some 94) _ = _
          simp only [Act.put, List.setIfInBounds_toArray, List.set_cons_zero, List.set_cons_succ, i64_w, i32_w]
          rfl
        refine pure_ (i := 6) (N := some 95) (v := ?_) (a' := ?_) #[true, true, true, true, true, true, true, true, true, false, false, true, false, false] rfl rfl (any_of HT_.out (by kernel_rfl)) (fun _ _ _ h => h) (Or.inl ⟨by rfl, ?_⟩) ?_ ?_
        rotate_left
        · intro w'
          go_simp
          with_reducible rfl
        rotate_left
        · simp only [Act.put, List.setIfInBounds_toArray, List.set_cons_zero, List.set_cons_succ, i64_w, i32_w]
          rfl
        refine one_ (i := 9) (N := some 98) #[true, true, true, true, true, true, true, true, true, true, false, true, false, false] rfl rfl (one_of HT_.out (by kernel_rfl)) (by decide) (fun K hK => ?_)
        refine goes_ Tryd.func40 (by kernel_rfl) rfl #[.int .i64 num] (by rfl) rfl rfl (by first | rfl | (simp only [List.map_toArray, List.map_cons, List.map_nil]; done) | (simp only [List.map_toArray, List.map_cons, List.map_nil]; rfl)) ?_
        refine (one_to _ num rfl HM.out.1 HM.out.2 _).mono ?_
        rintro e w7 ⟨rfl, hb⟩
        rw [← HMM.out]
        refine ⟨_, rfl, ?_⟩
        have n0_ := Aside0.mk (H.out.call hb)
        clear H hb
        have H := n0_
        clear n0_
        refine hK.out _ _ H.out.box (fun hHeld => ?_)
        clear hK K
        refine norm_ (a' := ?_) ?_ ?_
        rotate_left
        · show Act.put _ (some 98) _ = _
          simp only [Act.put, List.setIfInBounds_toArray, List.set_cons_zero, List.set_cons_succ, i64_w, i32_w]
          rfl
        refine pure_ (i := 10) (N := some 99) (v := ?_) (a' := ?_) #[true, true, true, true, true, true, true, true, true, true, true, true, false, false] rfl rfl (any_of HT_.out (by kernel_rfl)) (fun _ _ _ h => h) (Or.inl ⟨by rfl, ?_⟩) ?_ ?_
        rotate_left
        · intro w'
          go_simp
          with_reducible rfl
        rotate_left
        · simp only [Act.put, List.setIfInBounds_toArray, List.set_cons_zero, List.set_cons_succ, i64_w, i32_w]
          rfl
        refine pure_ (i := 12) (N := some 101) (v := ?_) (a' := ?_) #[true, true, true, true, true, true, true, true, true, true, true, true, true, false] rfl rfl (any_of HT_.out (by kernel_rfl)) (fun _ _ _ h => h) (Or.inl ⟨by rfl, ?_⟩) ?_ ?_
        rotate_left
        · intro w'
          go_simp
          with_reducible rfl
        rotate_left
        · simp only [Act.put, List.setIfInBounds_toArray, List.set_cons_zero, List.set_cons_succ, i64_w, i32_w]
          rfl
        refine pure_ (i := 13) (N := some 2) (v := ?_) (a' := ?_) #[true, true, true, true, true, true, true, true, true, true, true, true, true, true] rfl rfl (any_of HT_.out (by kernel_rfl)) (fun _ _ _ h => h) (Or.inl ⟨by rfl, ?_⟩) ?_ ?_
        rotate_left
        · intro w'
          go_simp
          with_reducible rfl
        rotate_left
        · simp only [Act.put, List.setIfInBounds_toArray, List.set_cons_zero, List.set_cons_succ, i64_w, i32_w]
          rfl
        refine done_ (done_of HT_.out (by kernel_rfl)) ?_
        clear HT_ HW_
        clear hHeld g2 g3 g4
        try go_wp2
        go_ret
        exact ⟨by rw [HF.out]; rfl, H.out.fr⟩
      · -- kind 7
        have hn : 1 ≤ n ∧ n ≤ 5 := by have := HNO.out; simpa [nodeOk] using this
        obtain ⟨N, hN⟩ : ∃ N, N = strOfNums [n - 1] := ⟨_, rfl⟩
        have hNs : N.size = 1 := by rw [hN, strOf_size]; rfl
        have HN := Aside0.mk hN
        have HNs := Aside0.mk hNs
        have hw : wrap64 (wrap64 n - 1) = n - 1 := by rw [w64 (x := n) (by omega) (by omega), w64 (x := n - 1) (by omega) (by omega)]
        have HW := Aside0.mk hw
        have HNN := Aside0.mk hn
        clear hN hNs hw hn
        have g2 := lim (P.size + N.size) (by have := HPs.out; have := HNs.out; omega)
        have g3 := lim (P.size + N.size + T.size) (by have := HPs.out; have := HNs.out; have := HTs.out; omega)
        have HF : Aside0 (P ++ N ++ T = R) := ⟨by rw [HR.out, putOf_7, HP.out, HN.out, HTC.out]; rw [strOf_app]; rw [strOf_app]; rfl⟩
        have c4_ := H.out.cell 4 (u := .slice A4 ks.length c4) rfl
        have cc0 := H.out.cell 0 (u := .int .u8 7) rfl
        have cc1 := H.out.cell 1 (u := .int .u8 n) rfl
        go_wp2_with fail
        refine (one_to _ (n - 1) (by first | exact HW.out | (have := HNN.out; go_num)) (by have := HNN.out; omega) (by have := HNN.out; omega) _).mono ?_
        rintro e w6 ⟨rfl, hb⟩
        rw [← HN.out]
        clear cc0 cc1 c4_
        have n0_ := Aside0.mk (H.out.call hb)
        clear H hb
        have H := n0_
        clear n0_
        go_wp2
        go_ret
        exact ⟨by rw [HF.out]; rfl, H.out.fr⟩
      · -- kind 8
        have hn : 1 ≤ n ∧ n ≤ 5 := by have := HNO.out; simpa [nodeOk] using this
        obtain ⟨N, hN⟩ : ∃ N, N = strOfNums [n - 1] := ⟨_, rfl⟩
        have hNs : N.size = 1 := by rw [hN, strOf_size]; rfl
        have HN := Aside0.mk hN
        have HNs := Aside0.mk hNs
        have hw : wrap64 (wrap64 n - 1) = n - 1 := by rw [w64 (x := n) (by omega) (by omega), w64 (x := n - 1) (by omega) (by omega)]
        have HW := Aside0.mk hw
        have HNN := Aside0.mk hn
        clear hN hNs hw hn
        have g2 := lim (P.size + N.size) (by have := HPs.out; have := HNs.out; omega)
        have HF : Aside0 (P ++ N = R) := ⟨by rw [HR.out, putOf_8, HP.out, HN.out]; rw [strOf_app]; rfl⟩
        have c4_ := H.out.cell 4 (u := .slice A4 ks.length c4) rfl
        have cc0 := H.out.cell 0 (u := .int .u8 8) rfl
        have cc1 := H.out.cell 1 (u := .int .u8 n) rfl
        go_wp2_with fail
        refine (one_to _ (n - 1) (by first | exact HW.out | (have := HNN.out; go_num)) (by have := HNN.out; omega) (by have := HNN.out; omega) _).mono ?_
        rintro e w6 ⟨rfl, hb⟩
        rw [← HN.out]
        clear cc0 cc1 c4_
        have n0_ := Aside0.mk (H.out.call hb)
        clear H hb
        have H := n0_
        clear n0_
        go_wp2
        go_ret
        exact ⟨by rw [HF.out]; rfl, H.out.fr⟩
      · -- kind 9
        have hn : n < 32 := by have := HNO.out; simpa [nodeOk] using this
        obtain ⟨N, hN⟩ : ∃ N, N = strOfNums [n] := ⟨_, rfl⟩
        have hNs : N.size = 1 := by rw [hN, strOf_size]; rfl
        have HN := Aside0.mk hN
        have HNs := Aside0.mk hNs
        have hw : wrap64 n = n := w64 HN9.out (by omega)
        have HW := Aside0.mk hw
        have HNN := Aside0.mk hn
        clear hN hNs hw hn
        have g2 := lim (P.size + N.size) (by have := HPs.out; have := HNs.out; omega)
        have g3 := lim (P.size + N.size + M.size) (by have := HPs.out; have := HNs.out; have := HMs.out; omega)
        have HF : Aside0 (P ++ N ++ M = R) := ⟨by rw [HR.out, putOf_9, HP.out, HN.out, HMM.out]; rw [strOf_app]; rw [strOf_app]; rfl⟩
        have c4_ := H.out.cell 4 (u := .slice A4 ks.length c4) rfl
        have cc0 := H.out.cell 0 (u := .int .u8 9) rfl
        go_wp2
        clear cc0 c4_
        have hb := below_drew (Below.refl wr.heap.size wr)
        have n0_ := Aside0.mk (H.out.call hb)
        clear H hb
        have H := n0_
        clear n0_
        refine start_ (n := 11) (S := Box g (.int .u8 9) (.int .u8 n) (.int .i64 num) (.string txt) (.slice A4 ks.length c4) (.slice A5 ts.length c5)) (ds := []) #[false, false, false, false, false, false, false, false, false, false, false] (by kernel_rfl) rfl rfl H.out.box (fun hHeld => ?_)
        refine with_tabW tabY19 bitsY19 (fun HT_ HW_ => ?_)
        generalize World.drew _ = w5 at H hHeld ⊢
        refine pure_ (i := 0) (N := some 124) (v := ?_) (a' := ?_) #[true, false, false, false, false, false, false, false, false, false, false] rfl rfl (any_of HT_.out (by kernel_rfl)) (fun _ _ _ h => h) (Or.inl ⟨by rfl, ?_⟩) ?_ ?_
        rotate_left
        · intro w'
          go_simp
          with_reducible rfl
        rotate_left
        · simp only [Act.put, List.setIfInBounds_toArray, List.set_cons_zero, List.set_cons_succ, i64_w, i32_w]
          rfl
        refine pure_ (i := 1) (N := some 125) (v := ?_) (a' := ?_) #[true, true, false, false, false, false, false, false, false, false, false] rfl rfl (any_of HT_.out (by kernel_rfl)) (fun _ _ _ h => h) (Or.inl ⟨by rfl, ?_⟩) ?_ ?_
        rotate_left
        · intro w'
          go_simp
          with_reducible rfl
        rotate_left
        · simp only [Act.put, List.setIfInBounds_toArray, List.set_cons_zero, List.set_cons_succ, i64_w, i32_w]
          rfl
        refine pure_ (i := 6) (N := some 130) (v := ?_) (a' := ?_) #[true, true, false, false, false, false, true, false, false, false, false] rfl rfl (any_of HT_.out (by kernel_rfl)) (fun _ _ _ h => h) (Or.inl ⟨by rfl, ?_⟩) ?_ ?_
        rotate_left
        · intro w'
          go_simp
          with_reducible rfl
        rotate_left
        · simp only [Act.put, List.setIfInBounds_toArray, List.set_cons_zero, List.set_cons_succ, i64_w, i32_w]
          rfl
        refine take_ (i := 2) (N := some 126) (v := ?_) (a' := ?_) #[true, true, true, false, false, false, true, false, false, false, false] rfl rfl (take_ofW HT_.out HW_.out (by kernel_rfl)) (fun _ _ _ h => h) (Or.inl ⟨by rfl, ?_⟩) hHeld ?_ ?_
        rotate_left
        · rintro w' ⟨s0, s1, s2, s3, s4, s5⟩
          go_simp
          with_reducible rfl
        rotate_left
        · simp only [Act.put, List.setIfInBounds_toArray, List.set_cons_zero, List.set_cons_succ, i64_w, i32_w]
          rfl
        refine pure_ (i := 3) (N := some 127) (v := ?_) (a' := ?_) #[true, true, true, true, false, false, true, false, false, false, false] rfl rfl (any_of HT_.out (by kernel_rfl)) (fun _ _ _ h => h) (Or.inl ⟨by rfl, ?_⟩) ?_ ?_
        rotate_left
        · intro w'
          go_simp
          with_reducible rfl
        rotate_left
        · simp only [Act.put, List.setIfInBounds_toArray, List.set_cons_zero, List.set_cons_succ, i64_w, i32_w]
          rfl
        refine take_ (i := 7) (N := some 131) (v := ?_) (a' := ?_) #[true, true, true, true, false, false, true, true, false, false, false] rfl rfl (take_ofW HT_.out HW_.out (by kernel_rfl)) (fun _ _ _ h => h) (Or.inl ⟨by rfl, ?_⟩) hHeld ?_ ?_
        rotate_left
        · rintro w' ⟨s0, s1, s2, s3, s4, s5⟩
          go_simp
          with_reducible rfl
        rotate_left
        · simp only [Act.put, List.setIfInBounds_toArray, List.set_cons_zero, List.set_cons_succ, i64_w, i32_w]
          rfl
        refine one_ (i := 4) (N := some 128) #[true, true, true, true, true, false, true, true, false, false, false] rfl rfl (one_of HT_.out (by kernel_rfl)) (by decide) (fun K hK => ?_)
        refine goes_ Tryd.func40 (by kernel_rfl) rfl #[.int .i64 (wrap64 n)] (by rfl) rfl rfl (by first | rfl | (simp only [List.map_toArray, List.map_cons, List.map_nil]; done) | (simp only [List.map_toArray, List.map_cons, List.map_nil]; rfl)) ?_
        refine (one_to _ n HW.out HN9.out (by have := HNN.out; omega) _).mono ?_
        rintro e w6 ⟨rfl, hb⟩
        rw [← HN.out]
        refine ⟨_, rfl, ?_⟩
        have n0_ := Aside0.mk (H.out.call hb)
        clear H hb
        have H := n0_
        clear n0_
        refine hK.out _ _ H.out.box (fun hHeld => ?_)
        clear hK K
        refine norm_ (a' := ?_) ?_ ?_
        rotate_left
        · show Act.put _ (some 128) _ = _
          simp only [Act.put, List.setIfInBounds_toArray, List.set_cons_zero, List.set_cons_succ, i64_w, i32_w]
          rfl
        refine pure_ (i := 5) (N := some 129) (v := ?_) (a' := ?_) #[true, true, true, true, true, true, true, true, false, false, false] rfl rfl (any_of HT_.out (by kernel_rfl)) (fun _ _ _ h => h) (Or.inl ⟨by rfl, ?_⟩) ?_ ?_
        rotate_left
        · intro w'
          go_simp
          with_reducible rfl
        rotate_left
        · simp only [Act.put, List.setIfInBounds_toArray, List.set_cons_zero, List.set_cons_succ, i64_w, i32_w]
          rfl
        refine one_ (i := 8) (N := some 132) #[true, true, true, true, true, true, true, true, true, false, false] rfl rfl (one_of HT_.out (by kernel_rfl)) (by decide) (fun K hK => ?_)
        refine goes_ Tryd.func40 (by kernel_rfl) rfl #[.int .i64 num] (by rfl) rfl rfl (by first | rfl | (simp only [List.map_toArray, List.map_cons, List.map_nil]; done) | (simp only [List.map_toArray, List.map_cons, List.map_nil]; rfl)) ?_
        refine (one_to _ num rfl HM.out.1 HM.out.2 _).mono ?_
        rintro e w7 ⟨rfl, hb⟩
        rw [← HMM.out]
        refine ⟨_, rfl, ?_⟩
        have n0_ := Aside0.mk (H.out.call hb)
        clear H hb
        have H := n0_
        clear n0_
        refine hK.out _ _ H.out.box (fun hHeld => ?_)
        clear hK K
        refine norm_ (a' := ?_) ?_ ?_
        rotate_left
        · show Act.put _ (some 132) _ = _
          simp only [Act.put, List.setIfInBounds_toArray, List.set_cons_zero, List.set_cons_succ, i64_w, i32_w]
          rfl
        refine pure_ (i := 9) (N := some 133) (v := ?_) (a' := ?_) #[true, true, true, true, true, true, true, true, true, true, false] rfl rfl (any_of HT_.out (by kernel_rfl)) (fun _ _ _ h => h) (Or.inl ⟨by rfl, ?_⟩) ?_ ?_
        rotate_left
        · intro w'
          go_simp
          with_reducible rfl
        rotate_left
        · simp only [Act.put, List.setIfInBounds_toArray, List.set_cons_zero, List.set_cons_succ, i64_w, i32_w]
          rfl
        refine pure_ (i := 10) (N := some 2) (v := ?_) (a' := ?_) #[true, true, true, true, true, true, true, true, true, true, true] rfl rfl (any_of HT_.out (by kernel_rfl)) (fun _ _ _ h => h) (Or.inl ⟨by rfl, ?_⟩) ?_ ?_
        rotate_left
        · intro w'
          go_simp
          with_reducible rfl
        rotate_left
        · simp only [Act.put, List.setIfInBounds_toArray, List.set_cons_zero, List.set_cons_succ, i64_w, i32_w]
          rfl
        refine done_ (done_of HT_.out (by kernel_rfl)) ?_
        clear HT_ HW_
        clear hHeld g2 g3
        try go_wp2
        go_ret
        exact ⟨by rw [HF.out]; rfl, H.out.fr⟩
end Go.Proofs.YtahfcdlggaoakaaDoor.Rd

/- The document's Decode, walked: it is the same acts. -/
import Derived.Test.YtahfcdlggaoakaaDoorRefA
namespace Go.Proofs.YtahfcdlggaoakaaDoor.Rd
open Go.RowKit Go.Proofs.YtahfcdlggaoakaaDoorW.PrintWords Go.Proofs.YtahfcdlggaoakaaDoorW.PrintLast Go.Proofs.YtahfcdlggaoakaaDoorW.PrintMore
open Go.Proofs.YtahfcdlggaoakaaDoor.PScriptDecodes
set_option linter.unusedVariables false
set_option linter.unusedSimpArgs false

/-- The act in hand lies in block g, beside the acts that are taken. -/
structure BS (z w : World) (g : Nat) (cs : Array Value) (v : Value) (out : List S26) : Prop where
  blk : w.heap[g]? = some (.cells cs 26 (0, 0))
  own : Kd.R k26 26 w z.heap.size (fun k => True ∧ k ≠ g) v out
  fr : Below z.heap.size z w
  ge : z.heap.size ≤ g
theorem BS.start {z w : World} {v : Value} {out : List S26} (h : RA w z.heap.size v out) (hf : Below z.heap.size z w) (cs : Array Value) : BS z (w.alloc (.cells cs 26)) w.heap.size cs v out :=
  ⟨blk_new _ _, Kd.R_alloc (Kd.R_elderB h _ (Nat.le_refl _)) _, below_alloc hf _, hf.size⟩
theorem BS.call {z w w' : World} {g : Nat} {cs : Array Value} {v : Value} {out : List S26} (h : BS z w g cs v out) (hb : Below w.heap.size w w') : BS z w' g cs v out :=
  ⟨blk_below h.blk hb, Kd.R_below h.own hb, below_then h.fr h.fr.size hb, h.ge⟩
theorem BS.set {z w : World} {g : Nat} {cs : Array Value} {v : Value} {out : List S26} (h : BS z w g cs v out) (i : Nat) (u : Value) {cs' : Array Value} (e : cs.setIfInBounds i u = cs') : BS z (w.setCell ⟨g, i, none⟩ u) g cs' v out :=
  ⟨blk_put h.blk i u e, Kd.R_far h.own (fun k hk => hk.2) u, h.fr.setCell h.ge u, h.ge⟩
theorem BS.cell {z w : World} {g : Nat} {cs : Array Value} {v : Value} {out : List S26} (h : BS z w g cs v out) (i : Nat) {u : Value} (e : cs[i]? = some u) : w.cell? ⟨g, i, none⟩ = some u := (blk_cell h.blk i).trans e
theorem BS.free {z w : World} {g : Nat} {cs : Array Value} {v : Value} {out : List S26} (h : BS z w g cs v out) (i : Nat) : w.frozen? ⟨g, i, none⟩ = false := blk_frozen h.blk i
theorem cut_one (s : ByteArray) (p : Nat) (h : p < s.size) (W : World) : (Instr.slice 9 (.string s) (some (.int .i64 (p : Int))) (some (.int .i64 ((p : Int) + 1))) none).run Tryd.prog W = .ok (.string (s.extract p (p + 1))) W := by
  have h := run_slice_string (P := Tryd.prog) W 9 s .i64 .i64 (p : Int) ((p : Int) + 1) Tryd.underlying9 (by omega) (by omega) (by omega)
  have e0 : ((p : Int)).toNat = p := Int.toNat_natCast p
  have e1 : ((p : Int) + 1).toNat = p + 1 := by omega
  rw [e0, e1] at h
  exact h
theorem few (t x : Nat) (ht : t ≤ 12000) (hx : x ≤ 1) : (9223372036854775807 < t + x) = False := by
  refine eq_false (fun h => ?_)
  have h1 : t + x ≤ 12001 := Nat.add_le_add ht hx
  have h2 := Nat.lt_of_lt_of_le h h1
  exact absurd h2 (by decide)
theorem min_one (p n : Nat) : min (p + 1) n - p ≤ 1 := by omega
theorem dec_next {s : ByteArray} {i i' q kq : Nat} {out L : List S26} {a : S26} (h : out ++ dec kq (beh s i) = L) (hi : i < s.size) (hk : kq = q + 1) (ha : Decoded (beh s i) a (beh s i')) : out ++ [a] ++ dec q (beh s i') = L := by
  subst hk
  have hne : beh s i ≠ [] := by
    intro e
    have := congrArg List.length e
    simp [beh, bytesOf_length] at this
    omega
  rw [dec_succ, if_neg hne, ha.1, ha.2] at h
  rw [List.append_assoc]
  exact h

def ref_T14 : Bool × List (List Nat × List Nat) := (true, [([], []), ([0], [0]), ([], []), ([], []), ([], []), ([4], [4]), ([2, 3, 5], [2, 3, 5]), ([1, 6], [1, 6]), ([0, 1, 2, 3, 4, 5, 6, 7], []), ([8, 7, 0, 1, 2, 3, 4, 5, 6, 7], [7, 8])])
def ref_B14 : List Nat := [0, 1, 0, 0, 0, 16, 60, 127, 255, 511]
theorem wapentakeref26_tab14 : rtab .any (opsOf Tryd.f14 14) = ref_T14 := by kernel_rfl
theorem wapentakeref26_bits14 : waitsOk ref_T14.2 ref_B14 = true := by kernel_rfl
set_option maxRecDepth 100000 in
set_option maxHeartbeats 8000000 in
theorem refdec_any (s : ByteArray) (hs : s.size ≤ 12000) (z : World) : Calls Tryd.prog 14 #[.string s] z fun e w' => ∃ v, e = .returned v ∧ RA w' z.heap.size v (dec 400 (bytesOf s)) ∧ Below z.heap.size z w' := by
  obtain ⟨L, hL⟩ : ∃ L, L = dec 400 (bytesOf s) := ⟨_, rfl⟩
  rw [← hL]
  have HL := Aside0.mk hL
  have HS := Aside0.mk hs
  clear hL hs
  go_enter Tryd.func14, Tryd.ntmps14
  go_wp2
  go_loopg [3, 4] 400 (fun kq v3 v4 wr => ∃ (j i : Nat) (out : List S26), v4 = .int .i64 (i : Int) ∧ j + kq = 400 ∧ out.length = j ∧ i ≤ 12100 ∧ Aside0 (out ++ dec kq (beh s i) = L) ∧ Aside0 (RA wr z.heap.size v3 out) ∧ Aside0 (Below z.heap.size z wr))
  case atStart => exact ⟨0, 0, [], rfl, rfl, rfl, Nat.zero_le _, ⟨by rw [HL.out]; rfl⟩, ⟨Kd.R_nil _ _ _ _ _⟩, ⟨Below.refl _ _⟩⟩
  case round =>
    obtain ⟨j, i, out, rfl, hjk, hlo, hi12, HP, HO, HF⟩ := hrel
    obtain ⟨Ao, co, eo⟩ := Kd.R_slice HO.out
    subst eo
    have hlj : out.length ≤ 400 := by omega
    have HJ := Aside0.mk hlo
    have HK := Aside0.mk hjk
    clear hlo hjk
    by_cases hi : i < s.size
    · by_cases hlt : out.length < 400
      · obtain ⟨p0, p1⟩ := (beh_bs s i).hd
        obtain ⟨q0, q1⟩ := (beh_bs s (i + 1)).hd
        have hcases : hd (beh s i) % 9 = 0 ∨ hd (beh s i) % 9 = 1 ∨ hd (beh s i) % 9 = 2 ∨ hd (beh s i) % 9 = 3 ∨ hd (beh s i) % 9 = 4 ∨ hd (beh s i) % 9 = 5 ∨ hd (beh s i) % 9 = 6 ∨ hd (beh s i) % 9 = 7 ∨ hd (beh s i) % 9 = 8 := by omega
        rcases hcases with hk9 | hk9 | hk9 | hk9 | hk9 | hk9 | hk9 | hk9 | hk9
        · -- kind 1
          have hk : (hd (beh s i)).tmod 9 = 0 := by rw [tmod_small p0]; exact hk9
          go_wp2_with fail
          refine (at_any s _ i rfl _).mono ?_
          rintro e w2 ⟨rfl, hd2⟩
          have H : Aside0 (BS z (w2.alloc (.cells #[.int .u8 1, .int .u8 0, .int .i64 0, .string ⟨#[]⟩, .slice none 0 0, .slice none 0 0] 26)) w2.heap.size #[.int .u8 1, .int .u8 0, .int .i64 0, .string ⟨#[]⟩, .slice none 0 0, .slice none 0 0] (.slice Ao out.length co) out) := ⟨BS.start (Kd.R_below HO.out hd2.below) (below_then HF.out HF.out.size hd2.below) _⟩
          obtain ⟨g, hg⟩ : ∃ g, g = w2.heap.size := ⟨_, rfl⟩
          have hsz2 := hd2.below.size
          clear hd2
          go_wp2_with fail
          rw [← hg] at H ⊢
          have HWG : Aside0 (wr.heap.size ≤ g) := ⟨by rw [hg]; exact hsz2⟩
          clear hg hsz2
          refine (at_any s _ (i + 1) (by go_num) _).mono ?_
          rintro e w3 ⟨rfl, hd3⟩
          have n0_ := Aside0.mk (H.out.call hd3.below)
          clear H hd3
          have H := n0_
          clear n0_
          have q2 := tmod_small q0 5
          have c0 := H.out.cell 0 (u := .int .u8 1) rfl
          have f0 := H.out.free 0
          have c1 := H.out.cell 1 (u := .int .u8 0) rfl
          have f1 := H.out.free 1
          obtain ⟨m0, m1⟩ := (beh_bs s (i + 2)).hd
          obtain ⟨n0, n1⟩ := (beh_bs s (i + 3)).hd
          go_wp2_with fail
          clear c0 f0 c1 f1
          have n0_ := Aside0.mk (H.out.set 1 (.int .u8 (1 + hd (beh s (i + 1)) % 5)) (cs' := #[.int .u8 1, .int .u8 (1 + hd (beh s (i + 1)) % 5), .int .i64 0, .string ⟨#[]⟩, .slice none 0 0, .slice none 0 0]) rfl)
          clear H
          have H := n0_
          clear n0_
          generalize World.setCell _ _ _ = ws3 at H ⊢
          refine (at_any s _ (i + 2) (by go_num) _).mono ?_
          rintro e w4 ⟨rfl, hd4⟩
          have n0_ := Aside0.mk (H.out.call hd4.below)
          clear H hd4
          have H := n0_
          clear n0_
          go_wp2_with fail
          refine (at_any s _ (i + 3) (by go_num) _).mono ?_
          rintro e w5 ⟨rfl, hd5⟩
          have n0_ := Aside0.mk (H.out.call hd5.below)
          clear H hd5
          have H := n0_
          clear n0_
          obtain ⟨N, hN⟩ : ∃ N, N = textLen (beh s (i + 2)) := ⟨_, rfl⟩
          have hN2 : N = min (256 * hd (beh s (i + 2)) + hd (beh s (i + 3))).toNat (s.size - (i + 4)) := by rw [hN]; exact text_len2 s (i + 2)
          have HN := Aside0.mk hN
          have HN2 := Aside0.mk hN2
          clear hN hN2
          obtain ⟨b2, hb2⟩ : ∃ b2, b2 = hd (beh s (i + 2)) := ⟨_, rfl⟩
          obtain ⟨b3, hb3⟩ : ∃ b3, b3 = hd (beh s (i + 3)) := ⟨_, rfl⟩
          obtain ⟨nd, hnd⟩ : ∃ nd, nd = 1 + hd (beh s (i + 1)) % 5 := ⟨_, rfl⟩
          rw [← hnd] at H ⊢
          rw [← hb2] at HN2 m0 m1 ⊢
          rw [← hb3] at HN2 n0 n1 ⊢
          have HND := Aside0.mk hnd
          clear hb2 hb3 hnd
          obtain ⟨G, hG⟩ : ∃ G, gk = G + 1 := ⟨gk - 1, by have := HK.out; have := HJ.out; omega⟩
          have HG := Aside0.mk hG
          clear hG
          go_wp2
          go_loopg [4, 8] N (fun kq v4 v8 wx => ∃ (m p : Nat), v4 = .int .i64 (p : Int) ∧ v8 = .int .i64 (m : Int) ∧ m + kq = N ∧ Aside0 (p = i + 4 + m) ∧ Aside0 (BS z wx g #[.int .u8 1, .int .u8 nd, .int .i64 0, .string (strOfNums ((beh s (i + 4)).take m)), .slice none 0 0, .slice none 0 0] (.slice Ao out.length co) out))
          case atStart => exact ⟨0, i + 4, by go_num, rfl, by omega, ⟨rfl⟩, H⟩
          case round =>
            obtain ⟨m, p, rfl, rfl, hmk, HP4, H⟩ := hrel
            by_cases hmN : m < N
            · have x1 : (m : Int) < 256 * b2 + b3 := by have := HN2.out; omega
              have x2 : p < s.size := by have := HN2.out; have := HP4.out; omega
              have x3 : (p : Int) < (s.size : Int) := by omega
              have d1 : decide ((m : Int) < 256 * b2 + b3) = true := decide_eq_true x1
              have d2 : decide ((p : Int) < (s.size : Int)) = true := decide_eq_true x3
              have MK := Aside0.mk hmk
              clear hmk
              obtain ⟨T, hT⟩ : ∃ T, T = strOfNums ((beh s (i + 4)).take m) := ⟨_, rfl⟩
              rw [← hT] at H
              have HT := Aside0.mk hT
              have hTs : T.size ≤ 12000 := by
                rw [hT, strOf_size, List.length_take]
                have := HS.out
                have : (beh s (i + 4)).length ≤ s.size := by unfold beh; rw [List.length_drop, bytesOf_length]; omega
                omega
              have hXs : (s.extract p (p + 1)).size ≤ 1 := by rw [ByteArray.size_extract]; omega
              have e0 : ((p : Int)).toNat = p := Int.toNat_natCast p
              have e1 : ((p : Int) + 1).toNat = p + 1 := by omega
              have g0 : decide ((p : Int) ≤ (p : Int) + 1) = true := decide_eq_true (by omega)
              have g1 : decide ((p : Int) + 1 ≤ (s.size : Int)) = true := decide_eq_true (by omega)
              have g2 : decide (T.size + (s.extract p (p + 1)).size ≤ 9223372036854775807) = true := decide_eq_true (by omega)
              have g3 := few T.size (s.extract p (p + 1)).size hTs hXs
              have hw1 : wrap64 ((p : Int) + 1) = (p : Int) + 1 := w64 (by omega) (by have := HS.out; omega)
              obtain ⟨X, hX⟩ : ∃ X, X = s.extract p (p + 1) := ⟨_, rfl⟩
              rw [← hX] at hXs g2 g3
              have HX := Aside0.mk hX
              clear hT
              go_wp2
              have hsl := fun W => cut_one s p x2 W
              have g4 := few T.size (min (p + 1) s.size - p) hTs (min_one p s.size)
              rw [← hX] at hsl
              clear hX e0 e1
              have n0_ := Aside0.mk (H.out.call (below_drew (Below.refl _ _)))
              clear H
              have H := n0_
              clear n0_
              refine start_ (n := 10) (S := fun w' => w'.cell? ⟨g, 3, none⟩ = some (.string T)) (ds := [9]) #[false, false, false, false, false, false, false, false, false, false] (by kernel_rfl) rfl rfl (H.out.cell 3 (u := .string T) rfl) (fun hHeld => ?_)
              refine with_tabW wapentakeref26_tab14 wapentakeref26_bits14 (fun HT_ HW_ => ?_)
              generalize wr.drew = w19 at H hHeld ⊢
              refine pure_ (i := 0) (N := some 61) (v := ?_) (a' := ?_) #[true, false, false, false, false, false, false, false, false, false] rfl rfl (any_of HT_.out (by kernel_rfl)) (fun _ _ _ h => h) (Or.inl ⟨by rfl, ?_⟩) ?_ ?_
              rotate_left
              · intro w'
                go_simp
                with_reducible rfl
              rotate_left
              · simp only [Act.put, List.setIfInBounds_toArray, List.set_cons_zero, List.set_cons_succ, i64_w, i32_w]
                rfl
              refine pure_ (i := 2) (N := some 63) (v := ?_) (a' := ?_) #[true, false, true, false, false, false, false, false, false, false] rfl rfl (any_of HT_.out (by kernel_rfl)) (fun _ _ _ h => h) (Or.inl ⟨by rfl, ?_⟩) ?_ ?_
              rotate_left
              · intro w'
                go_simp
                with_reducible rfl
              rotate_left
              · simp only [Act.put, List.setIfInBounds_toArray, List.set_cons_zero, List.set_cons_succ, i64_w, i32_w]
                rfl
              refine pure_ (i := 3) (N := some 64) (v := ?_) (a' := ?_) #[true, false, true, true, false, false, false, false, false, false] rfl rfl (any_of HT_.out (by kernel_rfl)) (fun _ _ _ h => h) (Or.inl ⟨by rfl, ?_⟩) ?_ ?_
              rotate_left
              · intro w'
                go_simp
                with_reducible rfl
              rotate_left
              · simp only [Act.put, List.setIfInBounds_toArray, List.set_cons_zero, List.set_cons_succ, i64_w, i32_w]
                rfl
              refine pure_ (i := 4) (N := some 65) (v := ?_) (a' := ?_) #[true, false, true, true, true, false, false, false, false, false] rfl rfl (any_of HT_.out (by kernel_rfl)) (fun _ _ _ h => h) (Or.inl ⟨by rfl, ?_⟩) ?_ ?_
              rotate_left
              · intro w'
                go_simp
                with_reducible rfl
              rotate_left
              · simp only [Act.put, List.setIfInBounds_toArray, List.set_cons_zero, List.set_cons_succ, i64_w, i32_w]
                rfl
              refine pure_ (i := 5) (N := some 66) (v := ?_) (a' := ?_) #[true, false, true, true, true, true, false, false, false, false] rfl rfl (any_of HT_.out (by kernel_rfl)) (fun _ _ _ h => h) (Or.inl ⟨by rfl, ?_⟩) ?_ ?_
              rotate_left
              · intro w'
                go_simp
                with_reducible rfl
              rotate_left
              · simp only [Act.put, List.setIfInBounds_toArray, List.set_cons_zero, List.set_cons_succ, i64_w, i32_w]
                rfl
              refine pure_ (i := 6) (N := some 67) (v := ?_) (a' := ?_) #[true, false, true, true, true, true, true, false, false, false] rfl rfl (any_of HT_.out (by kernel_rfl)) (fun _ _ _ h => h) (Or.inl ⟨by rfl, ?_⟩) ?_ ?_
              rotate_left
              · intro w'
                go_simp
                with_reducible rfl
              rotate_left
              · simp only [Act.put, List.setIfInBounds_toArray, List.set_cons_zero, List.set_cons_succ, i64_w, i32_w]
                rfl
              refine take_ (i := 1) (N := some 62) (v := ?_) (a' := ?_) #[true, true, true, true, true, true, true, false, false, false] rfl rfl (take_ofW HT_.out HW_.out (by kernel_rfl)) (fun _ _ _ h => h) (Or.inl ⟨by rfl, ?_⟩) hHeld ?_ ?_
              rotate_left
              · intro w' s3
                go_simp
                with_reducible rfl
              rotate_left
              · simp only [Act.put, List.setIfInBounds_toArray, List.set_cons_zero, List.set_cons_succ, i64_w, i32_w]
                rfl
              refine pure_ (i := 7) (N := some 68) (v := ?_) (a' := ?_) #[true, true, true, true, true, true, true, true, false, false] rfl rfl (any_of HT_.out (by kernel_rfl)) (fun _ _ _ h => h) (Or.inl ⟨by rfl, ?_⟩) ?_ ?_
              rotate_left
              · intro w'
                go_simp
                with_reducible rfl
              rotate_left
              · simp only [Act.put, List.setIfInBounds_toArray, List.set_cons_zero, List.set_cons_succ, i64_w, i32_w]
                rfl
              refine pure_ (i := 8) (N := some 69) (v := ?_) (a' := ?_) #[true, true, true, true, true, true, true, true, true, false] rfl rfl (any_of HT_.out (by kernel_rfl)) (fun _ _ _ h => h) (Or.inl ⟨by rfl, ?_⟩) ?_ ?_
              rotate_left
              · intro w'
                go_simp
                with_reducible rfl
              rotate_left
              · simp only [Act.put, List.setIfInBounds_toArray, List.set_cons_zero, List.set_cons_succ, i64_w, i32_w]
                rfl
              refine last_ (i := 9) (N := none) #[true, true, true, true, true, true, true, true, true, true] rfl rfl (one_of HT_.out (by kernel_rfl)) (by decide) (fun K hK => ?_)
              have hs20 := H.out.cell 3 (u := .string T) rfl
              have hfs20 := H.out.free 3
              refine skip_ (w1 := ?_) (by rfl) rfl ?_ ?_
              rotate_left
              · go_simp
                rfl
              refine hK.out _ _ ?_
              clear hK K
              refine done_ (done_of HT_.out (by kernel_rfl)) ?_
              have HW1 := Aside0.mk hw1
              clear hw1
              clear HT_ HW_ hHeld hs20 hfs20 g0 g1 g2 g3 g4 hsl d1 d2 hTs hXs
              have HE := Aside0.mk (H.out.set 3 (.string (T ++ X)) (cs' := #[.int .u8 1, .int .u8 nd, .int .i64 0, .string (T ++ X), .slice none 0 0, .slice none 0 0]) rfl)
              clear H
              generalize World.setCell _ _ _ = wy at HE ⊢
              try go_wp2
              go_roundg (gk - 1)
              case measure => have := MK.out; omega
              case rel =>
                refine ⟨m + 1, p + 1, by rw [HW1.out]; rfl, by go_num, by have := MK.out; omega, ⟨by have := HP4.out; omega⟩, ⟨?_⟩⟩
                have ht := text_step s (i + 4) m (by have := HP4.out; omega)
                rw [← HT.out, ← HP4.out] at ht
                rw [← ht, ← HX.out]
                exact HE.out
            · have x0 : ¬ ((m : Int) < 256 * b2 + b3 ∧ (p : Int) < (s.size : Int)) := by have := HN2.out; have := HP4.out; omega
              obtain rfl : m = N := by omega
              obtain ⟨T, hT⟩ : ∃ T, T = strOfNums ((beh s (i + 4)).take m) := ⟨_, rfl⟩
              rw [← hT] at H
              have HA : Aside0 (Decoded (beh s i) ⟨1, nd, 0, T, ⟨[], []⟩⟩ (beh s p)) := ⟨by
                have h := act_k1 (beh s i) hk9
                simp only [tl_beh] at h
                have ht := text_of s (i + 2) m HN.out
                rw [ht.1, ht.2, ← HND.out] at h
                have e : i + 1 + 1 + 2 + m = p := by have := HP4.out; omega
                rw [hT]
                have e' : i + 2 + 2 + m = p := by have := HP4.out; omega
                rw [e'] at h
                exact h⟩
              have hp12 : p ≤ 12100 := by have := HP4.out; have := HS.out; have := HN2.out; omega
              have HP2 : Aside0 (out ++ [(⟨1, nd, 0, T, ⟨[], []⟩⟩ : S26)] ++ dec G (beh s p) = L) := ⟨dec_next HP.out hi HG.out HA.out⟩
              clear HP hT HA hmk hmN
              by_cases x1 : (m : Int) < 256 * b2 + b3
              · have x2 : ¬ (p : Int) < (s.size : Int) := fun h => x0 ⟨x1, h⟩
                have d1 : decide ((m : Int) < 256 * b2 + b3) = true := decide_eq_true x1
                have d2 : decide ((p : Int) < (s.size : Int)) = false := decide_eq_false x2
                clear x0
                have c0 := H.out.cell 0 (u := .int .u8 1) rfl
                have f0 := H.out.free 0
                have c1 := H.out.cell 1 (u := .int .u8 nd) rfl
                have f1 := H.out.free 1
                have c2 := H.out.cell 2 (u := .int .i64 0) rfl
                have f2 := H.out.free 2
                have c3 := H.out.cell 3 (u := .string T) rfl
                have f3 := H.out.free 3
                have c4 := H.out.cell 4 (u := .slice none 0 0) rfl
                have f4 := H.out.free 4
                have c5 := H.out.cell 5 (u := .slice none 0 0) rfl
                have f5 := H.out.free 5
                go_wp2_with (at_builtin; refine Kd.R_append k26 (w0 := z) z.heap.size rfl (.tmp 145) (.tmp 147) 27 26 (.agg #[(.int .u8 0), (.int .u8 0), (.int .i64 0), (.string ⟨#[]⟩), (.slice none 0 0), (.slice none 0 0)]) 80 rfl Tryd.underlying27 info26 rfl (by decide) (by omega) (.slice Ao out.length co) out ⟨1, nd, 0, T, ⟨[], []⟩⟩ [.int .u8 1, .int .u8 nd, .int .i64 0, .string T, .slice none 0 0, .slice none 0 0] (fun _ => True) (fun _ => False) rfl (by first | rfl | simp [Act.eval]) (k26_mkM _ _ _ _ (Kd.R_nil _ _ _ _ _) (Kd.R_nil _ _ _ _ _)) (fun _ hk => hk.elim) (fun _ _ => trivial) (Kd.R_mono H.out.own (fun _ _ => trivial)) H.out.fr H.out.fr.size (by omega) ?_; intro nv w9 ho hb hgr hat)
                have HO9 := Aside0.mk ho
                have HF9 := Aside0.mk hb
                clear ho hb hgr hat H HO HF
                clear c0 f0 c1 f1 c2 f2 c3 f3 c4 f4 c5 f5
                go_wp2
                go_roundg G
                case measure => have := HG.out; omega
                case rel => exact ⟨j + 1, p, out ++ [(⟨1, nd, 0, T, ⟨[], []⟩⟩ : S26)], by go_num, by have := HK.out; have := HG.out; omega, by simp [HJ.out], hp12, HP2, HO9, HF9⟩
              · have d1 : decide ((m : Int) < 256 * b2 + b3) = false := decide_eq_false x1
                clear x0
                have c0 := H.out.cell 0 (u := .int .u8 1) rfl
                have f0 := H.out.free 0
                have c1 := H.out.cell 1 (u := .int .u8 nd) rfl
                have f1 := H.out.free 1
                have c2 := H.out.cell 2 (u := .int .i64 0) rfl
                have f2 := H.out.free 2
                have c3 := H.out.cell 3 (u := .string T) rfl
                have f3 := H.out.free 3
                have c4 := H.out.cell 4 (u := .slice none 0 0) rfl
                have f4 := H.out.free 4
                have c5 := H.out.cell 5 (u := .slice none 0 0) rfl
                have f5 := H.out.free 5
                go_wp2_with (at_builtin; refine Kd.R_append k26 (w0 := z) z.heap.size rfl (.tmp 145) (.tmp 147) 27 26 (.agg #[(.int .u8 0), (.int .u8 0), (.int .i64 0), (.string ⟨#[]⟩), (.slice none 0 0), (.slice none 0 0)]) 80 rfl Tryd.underlying27 info26 rfl (by decide) (by omega) (.slice Ao out.length co) out ⟨1, nd, 0, T, ⟨[], []⟩⟩ [.int .u8 1, .int .u8 nd, .int .i64 0, .string T, .slice none 0 0, .slice none 0 0] (fun _ => True) (fun _ => False) rfl (by first | rfl | simp [Act.eval]) (k26_mkM _ _ _ _ (Kd.R_nil _ _ _ _ _) (Kd.R_nil _ _ _ _ _)) (fun _ hk => hk.elim) (fun _ _ => trivial) (Kd.R_mono H.out.own (fun _ _ => trivial)) H.out.fr H.out.fr.size (by omega) ?_; intro nv w9 ho hb hgr hat)
                have HO9 := Aside0.mk ho
                have HF9 := Aside0.mk hb
                clear ho hb hgr hat H HO HF
                clear c0 f0 c1 f1 c2 f2 c3 f3 c4 f4 c5 f5
                go_wp2
                go_roundg G
                case measure => have := HG.out; omega
                case rel => exact ⟨j + 1, p, out ++ [(⟨1, nd, 0, T, ⟨[], []⟩⟩ : S26)], by go_num, by have := HK.out; have := HG.out; omega, by simp [HJ.out], hp12, HP2, HO9, HF9⟩
        · -- kind 2
          have hk : (hd (beh s i)).tmod 9 = 1 := by rw [tmod_small p0]; exact hk9
          go_wp2_with fail
          refine (at_any s _ i rfl _).mono ?_
          rintro e w2 ⟨rfl, hd2⟩
          have H : Aside0 (BS z (w2.alloc (.cells #[.int .u8 2, .int .u8 0, .int .i64 0, .string ⟨#[]⟩, .slice none 0 0, .slice none 0 0] 26)) w2.heap.size #[.int .u8 2, .int .u8 0, .int .i64 0, .string ⟨#[]⟩, .slice none 0 0, .slice none 0 0] (.slice Ao out.length co) out) := ⟨BS.start (Kd.R_below HO.out hd2.below) (below_then HF.out HF.out.size hd2.below) _⟩
          obtain ⟨g, hg⟩ : ∃ g, g = w2.heap.size := ⟨_, rfl⟩
          have hsz2 := hd2.below.size
          clear hd2
          go_wp2_with fail
          rw [← hg] at H ⊢
          have HWG : Aside0 (wr.heap.size ≤ g) := ⟨by rw [hg]; exact hsz2⟩
          clear hg hsz2
          refine (at_any s _ (i + 1) (by go_num) _).mono ?_
          rintro e w3 ⟨rfl, hd3⟩
          have n0_ := Aside0.mk (H.out.call hd3.below)
          clear H hd3
          have H := n0_
          clear n0_
          have q2 := tmod_small q0 5
          have c0 := H.out.cell 0 (u := .int .u8 2) rfl
          have f0 := H.out.free 0
          go_wp2_with fail
          clear c0 f0
          refine (at_any s _ (i + 1) (by go_num) _).mono ?_
          rintro e w4 ⟨rfl, hd4⟩
          have n0_ := Aside0.mk (H.out.call hd4.below)
          clear H hd4
          have H := n0_
          clear n0_
          have c0 := H.out.cell 0 (u := .int .u8 2) rfl
          have f0 := H.out.free 0
          have c1 := H.out.cell 1 (u := .int .u8 0) rfl
          have f1 := H.out.free 1
          have c2 := H.out.cell 2 (u := .int .i64 0) rfl
          have f2 := H.out.free 2
          have c3 := H.out.cell 3 (u := .string ⟨#[]⟩) rfl
          have f3 := H.out.free 3
          have c4 := H.out.cell 4 (u := .slice none 0 0) rfl
          have f4 := H.out.free 4
          have c5 := H.out.cell 5 (u := .slice none 0 0) rfl
          have f5 := H.out.free 5
          have HE := Aside0.mk (H.out.set 2 (.int .i64 (hd (beh s (i + 1)))) (cs' := #[.int .u8 2, .int .u8 0, .int .i64 (hd (beh s (i + 1))), .string ⟨#[]⟩, .slice none 0 0, .slice none 0 0]) rfl)
          have HP2 : Aside0 (out ++ [(⟨2, 0, hd (beh s (i + 1)), ⟨#[]⟩, ⟨[], []⟩⟩ : S26)] ++ dec (gk - 1) (beh s (i + 2)) = L) := ⟨dec_next HP.out hi (by have := HK.out; have := HJ.out; omega) (by have h := act_k234 (beh s i) 2 hk9 (by decide); simp only [tl_beh] at h; exact h)⟩
          clear HP
          go_wp2_with (at_builtin; refine Kd.R_append k26 (w0 := z) z.heap.size rfl (.tmp 145) (.tmp 147) 27 26 (.agg #[(.int .u8 0), (.int .u8 0), (.int .i64 0), (.string ⟨#[]⟩), (.slice none 0 0), (.slice none 0 0)]) 80 rfl Tryd.underlying27 info26 rfl (by decide) (by omega) (.slice Ao out.length co) out ⟨2, 0, hd (beh s (i + 1)), ⟨#[]⟩, ⟨[], []⟩⟩ [.int .u8 2, .int .u8 0, .int .i64 (hd (beh s (i + 1))), .string ⟨#[]⟩, .slice none 0 0, .slice none 0 0] (fun _ => True) (fun _ => False) rfl (by first | rfl | simp [Act.eval]) (k26_mkM _ _ _ _ (Kd.R_nil _ _ _ _ _) (Kd.R_nil _ _ _ _ _)) (fun _ hk => hk.elim) (fun _ _ => trivial) (Kd.R_mono HE.out.own (fun _ _ => trivial)) HE.out.fr HE.out.fr.size (by omega) ?_; intro nv w9 ho hb hgr hat)
          have HO9 := Aside0.mk ho
          have HF9 := Aside0.mk hb
          clear ho hb hgr hat HE H HO HF
          clear c0 f0 c1 f1 c2 f2 c3 f3 c4 f4 c5 f5
          go_wp2
          go_roundg (gk - 1)
          case measure => have := HK.out; have := HJ.out; omega
          case rel => exact ⟨j + 1, (i + 2), out ++ [(⟨2, 0, hd (beh s (i + 1)), ⟨#[]⟩, ⟨[], []⟩⟩ : S26)], by go_num, by have := HK.out; have := HJ.out; omega, by simp [HJ.out], by have := HS.out; omega, HP2, HO9, HF9⟩
        · -- kind 3
          have hk : (hd (beh s i)).tmod 9 = 2 := by rw [tmod_small p0]; exact hk9
          go_wp2_with fail
          refine (at_any s _ i rfl _).mono ?_
          rintro e w2 ⟨rfl, hd2⟩
          have H : Aside0 (BS z (w2.alloc (.cells #[.int .u8 3, .int .u8 0, .int .i64 0, .string ⟨#[]⟩, .slice none 0 0, .slice none 0 0] 26)) w2.heap.size #[.int .u8 3, .int .u8 0, .int .i64 0, .string ⟨#[]⟩, .slice none 0 0, .slice none 0 0] (.slice Ao out.length co) out) := ⟨BS.start (Kd.R_below HO.out hd2.below) (below_then HF.out HF.out.size hd2.below) _⟩
          obtain ⟨g, hg⟩ : ∃ g, g = w2.heap.size := ⟨_, rfl⟩
          have hsz2 := hd2.below.size
          clear hd2
          go_wp2_with fail
          rw [← hg] at H ⊢
          have HWG : Aside0 (wr.heap.size ≤ g) := ⟨by rw [hg]; exact hsz2⟩
          clear hg hsz2
          refine (at_any s _ (i + 1) (by go_num) _).mono ?_
          rintro e w3 ⟨rfl, hd3⟩
          have n0_ := Aside0.mk (H.out.call hd3.below)
          clear H hd3
          have H := n0_
          clear n0_
          have q2 := tmod_small q0 5
          have c0 := H.out.cell 0 (u := .int .u8 3) rfl
          have f0 := H.out.free 0
          go_wp2_with fail
          clear c0 f0
          refine (at_any s _ (i + 1) (by go_num) _).mono ?_
          rintro e w4 ⟨rfl, hd4⟩
          have n0_ := Aside0.mk (H.out.call hd4.below)
          clear H hd4
          have H := n0_
          clear n0_
          have c0 := H.out.cell 0 (u := .int .u8 3) rfl
          have f0 := H.out.free 0
          have c1 := H.out.cell 1 (u := .int .u8 0) rfl
          have f1 := H.out.free 1
          have c2 := H.out.cell 2 (u := .int .i64 0) rfl
          have f2 := H.out.free 2
          have c3 := H.out.cell 3 (u := .string ⟨#[]⟩) rfl
          have f3 := H.out.free 3
          have c4 := H.out.cell 4 (u := .slice none 0 0) rfl
          have f4 := H.out.free 4
          have c5 := H.out.cell 5 (u := .slice none 0 0) rfl
          have f5 := H.out.free 5
          have HE := Aside0.mk (H.out.set 2 (.int .i64 (hd (beh s (i + 1)))) (cs' := #[.int .u8 3, .int .u8 0, .int .i64 (hd (beh s (i + 1))), .string ⟨#[]⟩, .slice none 0 0, .slice none 0 0]) rfl)
          have HP2 : Aside0 (out ++ [(⟨3, 0, hd (beh s (i + 1)), ⟨#[]⟩, ⟨[], []⟩⟩ : S26)] ++ dec (gk - 1) (beh s (i + 2)) = L) := ⟨dec_next HP.out hi (by have := HK.out; have := HJ.out; omega) (by have h := act_k234 (beh s i) 3 hk9 (by decide); simp only [tl_beh] at h; exact h)⟩
          clear HP
          go_wp2_with (at_builtin; refine Kd.R_append k26 (w0 := z) z.heap.size rfl (.tmp 145) (.tmp 147) 27 26 (.agg #[(.int .u8 0), (.int .u8 0), (.int .i64 0), (.string ⟨#[]⟩), (.slice none 0 0), (.slice none 0 0)]) 80 rfl Tryd.underlying27 info26 rfl (by decide) (by omega) (.slice Ao out.length co) out ⟨3, 0, hd (beh s (i + 1)), ⟨#[]⟩, ⟨[], []⟩⟩ [.int .u8 3, .int .u8 0, .int .i64 (hd (beh s (i + 1))), .string ⟨#[]⟩, .slice none 0 0, .slice none 0 0] (fun _ => True) (fun _ => False) rfl (by first | rfl | simp [Act.eval]) (k26_mkM _ _ _ _ (Kd.R_nil _ _ _ _ _) (Kd.R_nil _ _ _ _ _)) (fun _ hk => hk.elim) (fun _ _ => trivial) (Kd.R_mono HE.out.own (fun _ _ => trivial)) HE.out.fr HE.out.fr.size (by omega) ?_; intro nv w9 ho hb hgr hat)
          have HO9 := Aside0.mk ho
          have HF9 := Aside0.mk hb
          clear ho hb hgr hat HE H HO HF
          clear c0 f0 c1 f1 c2 f2 c3 f3 c4 f4 c5 f5
          go_wp2
          go_roundg (gk - 1)
          case measure => have := HK.out; have := HJ.out; omega
          case rel => exact ⟨j + 1, (i + 2), out ++ [(⟨3, 0, hd (beh s (i + 1)), ⟨#[]⟩, ⟨[], []⟩⟩ : S26)], by go_num, by have := HK.out; have := HJ.out; omega, by simp [HJ.out], by have := HS.out; omega, HP2, HO9, HF9⟩
        · -- kind 4
          have hk : (hd (beh s i)).tmod 9 = 3 := by rw [tmod_small p0]; exact hk9
          go_wp2_with fail
          refine (at_any s _ i rfl _).mono ?_
          rintro e w2 ⟨rfl, hd2⟩
          have H : Aside0 (BS z (w2.alloc (.cells #[.int .u8 4, .int .u8 0, .int .i64 0, .string ⟨#[]⟩, .slice none 0 0, .slice none 0 0] 26)) w2.heap.size #[.int .u8 4, .int .u8 0, .int .i64 0, .string ⟨#[]⟩, .slice none 0 0, .slice none 0 0] (.slice Ao out.length co) out) := ⟨BS.start (Kd.R_below HO.out hd2.below) (below_then HF.out HF.out.size hd2.below) _⟩
          obtain ⟨g, hg⟩ : ∃ g, g = w2.heap.size := ⟨_, rfl⟩
          have hsz2 := hd2.below.size
          clear hd2
          go_wp2_with fail
          rw [← hg] at H ⊢
          have HWG : Aside0 (wr.heap.size ≤ g) := ⟨by rw [hg]; exact hsz2⟩
          clear hg hsz2
          refine (at_any s _ (i + 1) (by go_num) _).mono ?_
          rintro e w3 ⟨rfl, hd3⟩
          have n0_ := Aside0.mk (H.out.call hd3.below)
          clear H hd3
          have H := n0_
          clear n0_
          have q2 := tmod_small q0 5
          have c0 := H.out.cell 0 (u := .int .u8 4) rfl
          have f0 := H.out.free 0
          go_wp2_with fail
          clear c0 f0
          refine (at_any s _ (i + 1) (by go_num) _).mono ?_
          rintro e w4 ⟨rfl, hd4⟩
          have n0_ := Aside0.mk (H.out.call hd4.below)
          clear H hd4
          have H := n0_
          clear n0_
          have c0 := H.out.cell 0 (u := .int .u8 4) rfl
          have f0 := H.out.free 0
          have c1 := H.out.cell 1 (u := .int .u8 0) rfl
          have f1 := H.out.free 1
          have c2 := H.out.cell 2 (u := .int .i64 0) rfl
          have f2 := H.out.free 2
          have c3 := H.out.cell 3 (u := .string ⟨#[]⟩) rfl
          have f3 := H.out.free 3
          have c4 := H.out.cell 4 (u := .slice none 0 0) rfl
          have f4 := H.out.free 4
          have c5 := H.out.cell 5 (u := .slice none 0 0) rfl
          have f5 := H.out.free 5
          have HE := Aside0.mk (H.out.set 2 (.int .i64 (hd (beh s (i + 1)))) (cs' := #[.int .u8 4, .int .u8 0, .int .i64 (hd (beh s (i + 1))), .string ⟨#[]⟩, .slice none 0 0, .slice none 0 0]) rfl)
          have HP2 : Aside0 (out ++ [(⟨4, 0, hd (beh s (i + 1)), ⟨#[]⟩, ⟨[], []⟩⟩ : S26)] ++ dec (gk - 1) (beh s (i + 2)) = L) := ⟨dec_next HP.out hi (by have := HK.out; have := HJ.out; omega) (by have h := act_k234 (beh s i) 4 hk9 (by decide); simp only [tl_beh] at h; exact h)⟩
          clear HP
          go_wp2_with (at_builtin; refine Kd.R_append k26 (w0 := z) z.heap.size rfl (.tmp 145) (.tmp 147) 27 26 (.agg #[(.int .u8 0), (.int .u8 0), (.int .i64 0), (.string ⟨#[]⟩), (.slice none 0 0), (.slice none 0 0)]) 80 rfl Tryd.underlying27 info26 rfl (by decide) (by omega) (.slice Ao out.length co) out ⟨4, 0, hd (beh s (i + 1)), ⟨#[]⟩, ⟨[], []⟩⟩ [.int .u8 4, .int .u8 0, .int .i64 (hd (beh s (i + 1))), .string ⟨#[]⟩, .slice none 0 0, .slice none 0 0] (fun _ => True) (fun _ => False) rfl (by first | rfl | simp [Act.eval]) (k26_mkM _ _ _ _ (Kd.R_nil _ _ _ _ _) (Kd.R_nil _ _ _ _ _)) (fun _ hk => hk.elim) (fun _ _ => trivial) (Kd.R_mono HE.out.own (fun _ _ => trivial)) HE.out.fr HE.out.fr.size (by omega) ?_; intro nv w9 ho hb hgr hat)
          have HO9 := Aside0.mk ho
          have HF9 := Aside0.mk hb
          clear ho hb hgr hat HE H HO HF
          clear c0 f0 c1 f1 c2 f2 c3 f3 c4 f4 c5 f5
          go_wp2
          go_roundg (gk - 1)
          case measure => have := HK.out; have := HJ.out; omega
          case rel => exact ⟨j + 1, (i + 2), out ++ [(⟨4, 0, hd (beh s (i + 1)), ⟨#[]⟩, ⟨[], []⟩⟩ : S26)], by go_num, by have := HK.out; have := HJ.out; omega, by simp [HJ.out], by have := HS.out; omega, HP2, HO9, HF9⟩
        · -- kind 5
          have hk : (hd (beh s i)).tmod 9 = 4 := by rw [tmod_small p0]; exact hk9
          go_wp2_with fail
          refine (at_any s _ i rfl _).mono ?_
          rintro e w2 ⟨rfl, hd2⟩
          have H : Aside0 (BS z (w2.alloc (.cells #[.int .u8 5, .int .u8 0, .int .i64 0, .string ⟨#[]⟩, .slice none 0 0, .slice none 0 0] 26)) w2.heap.size #[.int .u8 5, .int .u8 0, .int .i64 0, .string ⟨#[]⟩, .slice none 0 0, .slice none 0 0] (.slice Ao out.length co) out) := ⟨BS.start (Kd.R_below HO.out hd2.below) (below_then HF.out HF.out.size hd2.below) _⟩
          obtain ⟨g, hg⟩ : ∃ g, g = w2.heap.size := ⟨_, rfl⟩
          have hsz2 := hd2.below.size
          clear hd2
          go_wp2_with fail
          rw [← hg] at H ⊢
          have HWG : Aside0 (wr.heap.size ≤ g) := ⟨by rw [hg]; exact hsz2⟩
          clear hg hsz2
          refine (at_any s _ (i + 1) (by go_num) _).mono ?_
          rintro e w3 ⟨rfl, hd3⟩
          have n0_ := Aside0.mk (H.out.call hd3.below)
          clear H hd3
          have H := n0_
          clear n0_
          have q2 := tmod_small q0 5
          have c0 := H.out.cell 0 (u := .int .u8 5) rfl
          have f0 := H.out.free 0
          have c1 := H.out.cell 1 (u := .int .u8 0) rfl
          have f1 := H.out.free 1
          go_wp2_with fail
          clear c0 f0 c1 f1
          have n0_ := Aside0.mk (H.out.set 1 (.int .u8 (1 + hd (beh s (i + 1)) % 5)) (cs' := #[.int .u8 5, .int .u8 (1 + hd (beh s (i + 1)) % 5), .int .i64 0, .string ⟨#[]⟩, .slice none 0 0, .slice none 0 0]) rfl)
          clear H
          have H := n0_
          clear n0_
          generalize World.setCell _ _ _ = ws3 at H ⊢
          refine (at_any s _ (i + 2) (by go_num) _).mono ?_
          rintro e w4 ⟨rfl, hd4⟩
          have n0_ := Aside0.mk (H.out.call hd4.below)
          clear H hd4
          have H := n0_
          clear n0_
          have c0 := H.out.cell 0 (u := .int .u8 5) rfl
          have f0 := H.out.free 0
          have c1 := H.out.cell 1 (u := .int .u8 (1 + hd (beh s (i + 1)) % 5)) rfl
          have f1 := H.out.free 1
          have c2 := H.out.cell 2 (u := .int .i64 0) rfl
          have f2 := H.out.free 2
          have c3 := H.out.cell 3 (u := .string ⟨#[]⟩) rfl
          have f3 := H.out.free 3
          have c4 := H.out.cell 4 (u := .slice none 0 0) rfl
          have f4 := H.out.free 4
          have c5 := H.out.cell 5 (u := .slice none 0 0) rfl
          have f5 := H.out.free 5
          have HE := Aside0.mk (H.out.set 2 (.int .i64 (hd (beh s (i + 2)))) (cs' := #[.int .u8 5, .int .u8 (1 + hd (beh s (i + 1)) % 5), .int .i64 (hd (beh s (i + 2))), .string ⟨#[]⟩, .slice none 0 0, .slice none 0 0]) rfl)
          have HP2 : Aside0 (out ++ [(⟨5, 1 + hd (beh s (i + 1)) % 5, hd (beh s (i + 2)), ⟨#[]⟩, ⟨[], []⟩⟩ : S26)] ++ dec (gk - 1) (beh s (i + 3)) = L) := ⟨dec_next HP.out hi (by have := HK.out; have := HJ.out; omega) (by have h := act_k5 (beh s i) hk9; simp only [tl_beh] at h; exact h)⟩
          clear HP
          go_wp2_with (at_builtin; refine Kd.R_append k26 (w0 := z) z.heap.size rfl (.tmp 145) (.tmp 147) 27 26 (.agg #[(.int .u8 0), (.int .u8 0), (.int .i64 0), (.string ⟨#[]⟩), (.slice none 0 0), (.slice none 0 0)]) 80 rfl Tryd.underlying27 info26 rfl (by decide) (by omega) (.slice Ao out.length co) out ⟨5, 1 + hd (beh s (i + 1)) % 5, hd (beh s (i + 2)), ⟨#[]⟩, ⟨[], []⟩⟩ [.int .u8 5, .int .u8 (1 + hd (beh s (i + 1)) % 5), .int .i64 (hd (beh s (i + 2))), .string ⟨#[]⟩, .slice none 0 0, .slice none 0 0] (fun _ => True) (fun _ => False) rfl (by first | rfl | simp [Act.eval]) (k26_mkM _ _ _ _ (Kd.R_nil _ _ _ _ _) (Kd.R_nil _ _ _ _ _)) (fun _ hk => hk.elim) (fun _ _ => trivial) (Kd.R_mono HE.out.own (fun _ _ => trivial)) HE.out.fr HE.out.fr.size (by omega) ?_; intro nv w9 ho hb hgr hat)
          have HO9 := Aside0.mk ho
          have HF9 := Aside0.mk hb
          clear ho hb hgr hat HE H HO HF
          clear c0 f0 c1 f1 c2 f2 c3 f3 c4 f4 c5 f5
          go_wp2
          go_roundg (gk - 1)
          case measure => have := HK.out; have := HJ.out; omega
          case rel => exact ⟨j + 1, (i + 3), out ++ [(⟨5, 1 + hd (beh s (i + 1)) % 5, hd (beh s (i + 2)), ⟨#[]⟩, ⟨[], []⟩⟩ : S26)], by go_num, by have := HK.out; have := HJ.out; omega, by simp [HJ.out], by have := HS.out; omega, HP2, HO9, HF9⟩
        · -- kind 6
          have hk : (hd (beh s i)).tmod 9 = 5 := by rw [tmod_small p0]; exact hk9
          go_wp2_with fail
          refine (at_any s _ i rfl _).mono ?_
          rintro e w2 ⟨rfl, hd2⟩
          have H : Aside0 (BS z (w2.alloc (.cells #[.int .u8 6, .int .u8 0, .int .i64 0, .string ⟨#[]⟩, .slice none 0 0, .slice none 0 0] 26)) w2.heap.size #[.int .u8 6, .int .u8 0, .int .i64 0, .string ⟨#[]⟩, .slice none 0 0, .slice none 0 0] (.slice Ao out.length co) out) := ⟨BS.start (Kd.R_below HO.out hd2.below) (below_then HF.out HF.out.size hd2.below) _⟩
          obtain ⟨g, hg⟩ : ∃ g, g = w2.heap.size := ⟨_, rfl⟩
          have hsz2 := hd2.below.size
          clear hd2
          go_wp2_with fail
          rw [← hg] at H ⊢
          have HWG : Aside0 (wr.heap.size ≤ g) := ⟨by rw [hg]; exact hsz2⟩
          clear hg hsz2
          refine (at_any s _ (i + 1) (by go_num) _).mono ?_
          rintro e w3 ⟨rfl, hd3⟩
          have n0_ := Aside0.mk (H.out.call hd3.below)
          clear H hd3
          have H := n0_
          clear n0_
          have q2 := tmod_small q0 5
          have c0 := H.out.cell 0 (u := .int .u8 6) rfl
          have f0 := H.out.free 0
          have c1 := H.out.cell 1 (u := .int .u8 0) rfl
          have f1 := H.out.free 1
          go_wp2_with fail
          clear c0 f0 c1 f1
          have n0_ := Aside0.mk (H.out.set 1 (.int .u8 (1 + hd (beh s (i + 1)) % 5)) (cs' := #[.int .u8 6, .int .u8 (1 + hd (beh s (i + 1)) % 5), .int .i64 0, .string ⟨#[]⟩, .slice none 0 0, .slice none 0 0]) rfl)
          clear H
          have H := n0_
          clear n0_
          generalize World.setCell _ _ _ = ws3 at H ⊢
          refine (at_any s _ (i + 2) (by go_num) _).mono ?_
          rintro e w4 ⟨rfl, hd4⟩
          have n0_ := Aside0.mk (H.out.call hd4.below)
          clear H hd4
          have H := n0_
          clear n0_
          have c2 := H.out.cell 2 (u := .int .i64 0) rfl
          have f2 := H.out.free 2
          go_wp2_with fail
          clear c2 f2
          have n0_ := Aside0.mk (H.out.set 2 (.int .i64 (hd (beh s (i + 2)))) (cs' := #[.int .u8 6, .int .u8 (1 + hd (beh s (i + 1)) % 5), .int .i64 (hd (beh s (i + 2))), .string ⟨#[]⟩, .slice none 0 0, .slice none 0 0]) rfl)
          clear H
          have H := n0_
          clear n0_
          generalize World.setCell _ _ _ = ws4 at H ⊢
          have hgl := blk_lt H.out.blk
          have hzs := H.out.fr.size
          refine (crash_any2 s _ (i + 3) (by go_num) (by omega) _).mono ?_
          rintro e w5 ⟨v4, v5, n, KS, TS, hn, hKS, hTS, hnx, hn7, rfl, r4, r5, hbc⟩
          have n0_ := Aside0.mk (H.out.call hbc)
          clear H
          have H := n0_
          clear n0_
          have R4 : Aside0 (RI w5 z.heap.size (fun k => wr.heap.size ≤ k ∧ k ≠ g) v4 KS) := ⟨RI.any (Kd.R_lower r4 hzs) (fun k e => by have := Kd.R_base r4 k e; have := HWG.out; exact ⟨by omega, by omega⟩)⟩
          have R5 : Aside0 (RI w5 z.heap.size (fun k => wr.heap.size ≤ k ∧ k ≠ g) v5 TS) := ⟨RI.any (Kd.R_lower r5 hzs) (fun k e => by have := Kd.R_base r5 k e; have := HWG.out; exact ⟨by omega, by omega⟩)⟩
          obtain ⟨A4, n4, e4⟩ := Kd.R_slice R4.out
          obtain ⟨A5, n5, e5⟩ := Kd.R_slice R5.out
          subst e4
          subst e5
          have HLT := Aside0.mk (Kd.R_lt HO.out)
          have HA : Aside0 (Decoded (beh s i) ⟨6, 1 + hd (beh s (i + 1)) % 5, hd (beh s (i + 2)), ⟨#[]⟩, ⟨KS, TS⟩⟩ (beh s (i + 3 + 1 + 2 * n))) := ⟨by
            have h := act_k6 (beh s i) hk9
            have e3 : tl (tl (tl (beh s i))) = beh s (i + 3) := by rw [tl_beh]; rw [tl_beh]; rw [tl_beh]
            rw [e3, ← hn, ← hKS, ← hTS, ← hnx] at h
            simp only [tl_beh] at h
            exact h⟩
          clear hgl hzs r4 r5 hbc hn hKS hTS hnx
          have c0 := H.out.cell 0 (u := .int .u8 6) rfl
          have f0 := H.out.free 0
          have c1 := H.out.cell 1 (u := .int .u8 (1 + hd (beh s (i + 1)) % 5)) rfl
          have f1 := H.out.free 1
          have c2 := H.out.cell 2 (u := .int .i64 (hd (beh s (i + 2)))) rfl
          have f2 := H.out.free 2
          have c3 := H.out.cell 3 (u := .string ⟨#[]⟩) rfl
          have f3 := H.out.free 3
          have c4 := H.out.cell 4 (u := .slice none 0 0) rfl
          have f4 := H.out.free 4
          have c5 := H.out.cell 5 (u := .slice none 0 0) rfl
          have f5 := H.out.free 5
          have HE := Aside0.mk ((H.out.set 4 (.slice A4 KS.length n4) (cs' := #[.int .u8 6, .int .u8 (1 + hd (beh s (i + 1)) % 5), .int .i64 (hd (beh s (i + 2))), .string ⟨#[]⟩, .slice A4 KS.length n4, .slice none 0 0]) rfl).set 5 (.slice A5 TS.length n5) (cs' := #[.int .u8 6, .int .u8 (1 + hd (beh s (i + 1)) % 5), .int .i64 (hd (beh s (i + 2))), .string ⟨#[]⟩, .slice A4 KS.length n4, .slice A5 TS.length n5]) rfl)
          have HP2 : Aside0 (out ++ [(⟨6, 1 + hd (beh s (i + 1)) % 5, hd (beh s (i + 2)), ⟨#[]⟩, ⟨KS, TS⟩⟩ : S26)] ++ dec (gk - 1) (beh s (i + 3 + 1 + 2 * n)) = L) := ⟨dec_next HP.out hi (by have := HK.out; have := HJ.out; omega) HA.out⟩
          clear HP
          go_wp2_with (at_builtin; refine Kd.R_append k26 (w0 := z) z.heap.size rfl (.tmp 145) (.tmp 147) 27 26 (.agg #[(.int .u8 0), (.int .u8 0), (.int .i64 0), (.string ⟨#[]⟩), (.slice none 0 0), (.slice none 0 0)]) 80 rfl Tryd.underlying27 info26 rfl (by decide) (by omega) (.slice Ao out.length co) out ⟨6, 1 + hd (beh s (i + 1)) % 5, hd (beh s (i + 2)), ⟨#[]⟩, ⟨KS, TS⟩⟩ [.int .u8 6, .int .u8 (1 + hd (beh s (i + 1)) % 5), .int .i64 (hd (beh s (i + 2))), .string ⟨#[]⟩, .slice A4 KS.length n4, .slice A5 TS.length n5] (fun _ => True) (fun k => wr.heap.size ≤ k ∧ k ≠ g) rfl (by first | rfl | simp [Act.eval]) (k26_mkM _ _ _ _ (Kd.R_far (Kd.R_far R4.out (fun k hk => hk.2) _) (fun k hk => hk.2) _) (Kd.R_far (Kd.R_far R5.out (fun k hk => hk.2) _) (fun k hk => hk.2) _)) (fun k hk => ⟨trivial, fun e => by have := HLT.out k e.symm; omega⟩) (fun _ _ => trivial) (Kd.R_mono HE.out.own (fun _ _ => trivial)) HE.out.fr HE.out.fr.size (by omega) ?_; intro nv w9 ho hb hgr hat)
          have HO9 := Aside0.mk ho
          have HF9 := Aside0.mk hb
          clear ho hb hgr hat HE H HO HF
          clear c0 f0 c1 f1 c2 f2 c3 f3 c4 f4 c5 f5
          go_wp2
          go_roundg (gk - 1)
          case measure => have := HK.out; have := HJ.out; omega
          case rel => exact ⟨j + 1, (i + 3 + 1 + 2 * n), out ++ [(⟨6, 1 + hd (beh s (i + 1)) % 5, hd (beh s (i + 2)), ⟨#[]⟩, ⟨KS, TS⟩⟩ : S26)], by go_num, by have := HK.out; have := HJ.out; omega, by simp [HJ.out], by have := HS.out; omega, HP2, HO9, HF9⟩
        · -- kind 7
          have hk : (hd (beh s i)).tmod 9 = 6 := by rw [tmod_small p0]; exact hk9
          go_wp2_with fail
          refine (at_any s _ i rfl _).mono ?_
          rintro e w2 ⟨rfl, hd2⟩
          have H : Aside0 (BS z (w2.alloc (.cells #[.int .u8 7, .int .u8 0, .int .i64 0, .string ⟨#[]⟩, .slice none 0 0, .slice none 0 0] 26)) w2.heap.size #[.int .u8 7, .int .u8 0, .int .i64 0, .string ⟨#[]⟩, .slice none 0 0, .slice none 0 0] (.slice Ao out.length co) out) := ⟨BS.start (Kd.R_below HO.out hd2.below) (below_then HF.out HF.out.size hd2.below) _⟩
          obtain ⟨g, hg⟩ : ∃ g, g = w2.heap.size := ⟨_, rfl⟩
          have hsz2 := hd2.below.size
          clear hd2
          go_wp2_with fail
          rw [← hg] at H ⊢
          have HWG : Aside0 (wr.heap.size ≤ g) := ⟨by rw [hg]; exact hsz2⟩
          clear hg hsz2
          refine (at_any s _ (i + 1) (by go_num) _).mono ?_
          rintro e w3 ⟨rfl, hd3⟩
          have n0_ := Aside0.mk (H.out.call hd3.below)
          clear H hd3
          have H := n0_
          clear n0_
          have q2 := tmod_small q0 5
          have c0 := H.out.cell 0 (u := .int .u8 7) rfl
          have f0 := H.out.free 0
          have c1 := H.out.cell 1 (u := .int .u8 0) rfl
          have f1 := H.out.free 1
          go_wp2_with fail
          clear c0 f0 c1 f1
          have n0_ := Aside0.mk (H.out.set 1 (.int .u8 (1 + hd (beh s (i + 1)) % 5)) (cs' := #[.int .u8 7, .int .u8 (1 + hd (beh s (i + 1)) % 5), .int .i64 0, .string ⟨#[]⟩, .slice none 0 0, .slice none 0 0]) rfl)
          clear H
          have H := n0_
          clear n0_
          generalize World.setCell _ _ _ = ws3 at H ⊢
          have hgl := blk_lt H.out.blk
          have hzs := H.out.fr.size
          refine (crash_any2 s _ (i + 2) (by go_num) (by omega) _).mono ?_
          rintro e w4 ⟨v4, v5, n, KS, TS, hn, hKS, hTS, hnx, hn7, rfl, r4, r5, hbc⟩
          have n0_ := Aside0.mk (H.out.call hbc)
          clear H
          have H := n0_
          clear n0_
          have R4 : Aside0 (RI w4 z.heap.size (fun k => wr.heap.size ≤ k ∧ k ≠ g) v4 KS) := ⟨RI.any (Kd.R_lower r4 hzs) (fun k e => by have := Kd.R_base r4 k e; have := HWG.out; exact ⟨by omega, by omega⟩)⟩
          have R5 : Aside0 (RI w4 z.heap.size (fun k => wr.heap.size ≤ k ∧ k ≠ g) v5 TS) := ⟨RI.any (Kd.R_lower r5 hzs) (fun k e => by have := Kd.R_base r5 k e; have := HWG.out; exact ⟨by omega, by omega⟩)⟩
          obtain ⟨A4, n4, e4⟩ := Kd.R_slice R4.out
          obtain ⟨A5, n5, e5⟩ := Kd.R_slice R5.out
          subst e4
          subst e5
          have HLT := Aside0.mk (Kd.R_lt HO.out)
          have HA : Aside0 (Decoded (beh s i) ⟨7, 1 + hd (beh s (i + 1)) % 5, 0, ⟨#[]⟩, ⟨KS, TS⟩⟩ (beh s (i + 2 + 1 + 2 * n))) := ⟨by
            have h := act_k7 (beh s i) hk9
            have e3 : tl (tl (beh s i)) = beh s (i + 2) := by rw [tl_beh]; rw [tl_beh]
            rw [e3, ← hn, ← hKS, ← hTS, ← hnx] at h
            simp only [tl_beh] at h
            exact h⟩
          clear hgl hzs r4 r5 hbc hn hKS hTS hnx
          have c0 := H.out.cell 0 (u := .int .u8 7) rfl
          have f0 := H.out.free 0
          have c1 := H.out.cell 1 (u := .int .u8 (1 + hd (beh s (i + 1)) % 5)) rfl
          have f1 := H.out.free 1
          have c2 := H.out.cell 2 (u := .int .i64 0) rfl
          have f2 := H.out.free 2
          have c3 := H.out.cell 3 (u := .string ⟨#[]⟩) rfl
          have f3 := H.out.free 3
          have c4 := H.out.cell 4 (u := .slice none 0 0) rfl
          have f4 := H.out.free 4
          have c5 := H.out.cell 5 (u := .slice none 0 0) rfl
          have f5 := H.out.free 5
          have HE := Aside0.mk ((H.out.set 4 (.slice A4 KS.length n4) (cs' := #[.int .u8 7, .int .u8 (1 + hd (beh s (i + 1)) % 5), .int .i64 0, .string ⟨#[]⟩, .slice A4 KS.length n4, .slice none 0 0]) rfl).set 5 (.slice A5 TS.length n5) (cs' := #[.int .u8 7, .int .u8 (1 + hd (beh s (i + 1)) % 5), .int .i64 0, .string ⟨#[]⟩, .slice A4 KS.length n4, .slice A5 TS.length n5]) rfl)
          have HP2 : Aside0 (out ++ [(⟨7, 1 + hd (beh s (i + 1)) % 5, 0, ⟨#[]⟩, ⟨KS, TS⟩⟩ : S26)] ++ dec (gk - 1) (beh s (i + 2 + 1 + 2 * n)) = L) := ⟨dec_next HP.out hi (by have := HK.out; have := HJ.out; omega) HA.out⟩
          clear HP
          go_wp2_with (at_builtin; refine Kd.R_append k26 (w0 := z) z.heap.size rfl (.tmp 145) (.tmp 147) 27 26 (.agg #[(.int .u8 0), (.int .u8 0), (.int .i64 0), (.string ⟨#[]⟩), (.slice none 0 0), (.slice none 0 0)]) 80 rfl Tryd.underlying27 info26 rfl (by decide) (by omega) (.slice Ao out.length co) out ⟨7, 1 + hd (beh s (i + 1)) % 5, 0, ⟨#[]⟩, ⟨KS, TS⟩⟩ [.int .u8 7, .int .u8 (1 + hd (beh s (i + 1)) % 5), .int .i64 0, .string ⟨#[]⟩, .slice A4 KS.length n4, .slice A5 TS.length n5] (fun _ => True) (fun k => wr.heap.size ≤ k ∧ k ≠ g) rfl (by first | rfl | simp [Act.eval]) (k26_mkM _ _ _ _ (Kd.R_far (Kd.R_far R4.out (fun k hk => hk.2) _) (fun k hk => hk.2) _) (Kd.R_far (Kd.R_far R5.out (fun k hk => hk.2) _) (fun k hk => hk.2) _)) (fun k hk => ⟨trivial, fun e => by have := HLT.out k e.symm; omega⟩) (fun _ _ => trivial) (Kd.R_mono HE.out.own (fun _ _ => trivial)) HE.out.fr HE.out.fr.size (by omega) ?_; intro nv w9 ho hb hgr hat)
          have HO9 := Aside0.mk ho
          have HF9 := Aside0.mk hb
          clear ho hb hgr hat HE H HO HF
          clear c0 f0 c1 f1 c2 f2 c3 f3 c4 f4 c5 f5
          go_wp2
          go_roundg (gk - 1)
          case measure => have := HK.out; have := HJ.out; omega
          case rel => exact ⟨j + 1, (i + 2 + 1 + 2 * n), out ++ [(⟨7, 1 + hd (beh s (i + 1)) % 5, 0, ⟨#[]⟩, ⟨KS, TS⟩⟩ : S26)], by go_num, by have := HK.out; have := HJ.out; omega, by simp [HJ.out], by have := HS.out; omega, HP2, HO9, HF9⟩
        · -- kind 8
          have hk : (hd (beh s i)).tmod 9 = 7 := by rw [tmod_small p0]; exact hk9
          go_wp2_with fail
          refine (at_any s _ i rfl _).mono ?_
          rintro e w2 ⟨rfl, hd2⟩
          have H : Aside0 (BS z (w2.alloc (.cells #[.int .u8 8, .int .u8 0, .int .i64 0, .string ⟨#[]⟩, .slice none 0 0, .slice none 0 0] 26)) w2.heap.size #[.int .u8 8, .int .u8 0, .int .i64 0, .string ⟨#[]⟩, .slice none 0 0, .slice none 0 0] (.slice Ao out.length co) out) := ⟨BS.start (Kd.R_below HO.out hd2.below) (below_then HF.out HF.out.size hd2.below) _⟩
          obtain ⟨g, hg⟩ : ∃ g, g = w2.heap.size := ⟨_, rfl⟩
          have hsz2 := hd2.below.size
          clear hd2
          go_wp2_with fail
          rw [← hg] at H ⊢
          have HWG : Aside0 (wr.heap.size ≤ g) := ⟨by rw [hg]; exact hsz2⟩
          clear hg hsz2
          refine (at_any s _ (i + 1) (by go_num) _).mono ?_
          rintro e w3 ⟨rfl, hd3⟩
          have n0_ := Aside0.mk (H.out.call hd3.below)
          clear H hd3
          have H := n0_
          clear n0_
          have q2 := tmod_small q0 5
          have c0 := H.out.cell 0 (u := .int .u8 8) rfl
          have f0 := H.out.free 0
          have c1 := H.out.cell 1 (u := .int .u8 0) rfl
          have f1 := H.out.free 1
          have c2 := H.out.cell 2 (u := .int .i64 0) rfl
          have f2 := H.out.free 2
          have c3 := H.out.cell 3 (u := .string ⟨#[]⟩) rfl
          have f3 := H.out.free 3
          have c4 := H.out.cell 4 (u := .slice none 0 0) rfl
          have f4 := H.out.free 4
          have c5 := H.out.cell 5 (u := .slice none 0 0) rfl
          have f5 := H.out.free 5
          have HE := Aside0.mk (H.out.set 1 (.int .u8 (1 + hd (beh s (i + 1)) % 5)) (cs' := #[.int .u8 8, .int .u8 (1 + hd (beh s (i + 1)) % 5), .int .i64 0, .string ⟨#[]⟩, .slice none 0 0, .slice none 0 0]) rfl)
          have HP2 : Aside0 (out ++ [(⟨8, 1 + hd (beh s (i + 1)) % 5, 0, ⟨#[]⟩, ⟨[], []⟩⟩ : S26)] ++ dec (gk - 1) (beh s (i + 2)) = L) := ⟨dec_next HP.out hi (by have := HK.out; have := HJ.out; omega) (by have h := act_k8 (beh s i) hk9; simp only [tl_beh] at h; exact h)⟩
          clear HP
          go_wp2_with (at_builtin; refine Kd.R_append k26 (w0 := z) z.heap.size rfl (.tmp 145) (.tmp 147) 27 26 (.agg #[(.int .u8 0), (.int .u8 0), (.int .i64 0), (.string ⟨#[]⟩), (.slice none 0 0), (.slice none 0 0)]) 80 rfl Tryd.underlying27 info26 rfl (by decide) (by omega) (.slice Ao out.length co) out ⟨8, 1 + hd (beh s (i + 1)) % 5, 0, ⟨#[]⟩, ⟨[], []⟩⟩ [.int .u8 8, .int .u8 (1 + hd (beh s (i + 1)) % 5), .int .i64 0, .string ⟨#[]⟩, .slice none 0 0, .slice none 0 0] (fun _ => True) (fun _ => False) rfl (by first | rfl | simp [Act.eval]) (k26_mkM _ _ _ _ (Kd.R_nil _ _ _ _ _) (Kd.R_nil _ _ _ _ _)) (fun _ hk => hk.elim) (fun _ _ => trivial) (Kd.R_mono HE.out.own (fun _ _ => trivial)) HE.out.fr HE.out.fr.size (by omega) ?_; intro nv w9 ho hb hgr hat)
          have HO9 := Aside0.mk ho
          have HF9 := Aside0.mk hb
          clear ho hb hgr hat HE H HO HF
          clear c0 f0 c1 f1 c2 f2 c3 f3 c4 f4 c5 f5
          go_wp2
          go_roundg (gk - 1)
          case measure => have := HK.out; have := HJ.out; omega
          case rel => exact ⟨j + 1, (i + 2), out ++ [(⟨8, 1 + hd (beh s (i + 1)) % 5, 0, ⟨#[]⟩, ⟨[], []⟩⟩ : S26)], by go_num, by have := HK.out; have := HJ.out; omega, by simp [HJ.out], by have := HS.out; omega, HP2, HO9, HF9⟩
        · -- kind 9
          have hk : (hd (beh s i)).tmod 9 = 8 := by rw [tmod_small p0]; exact hk9
          go_wp2_with fail
          refine (at_any s _ i rfl _).mono ?_
          rintro e w2 ⟨rfl, hd2⟩
          have H : Aside0 (BS z (w2.alloc (.cells #[.int .u8 9, .int .u8 0, .int .i64 0, .string ⟨#[]⟩, .slice none 0 0, .slice none 0 0] 26)) w2.heap.size #[.int .u8 9, .int .u8 0, .int .i64 0, .string ⟨#[]⟩, .slice none 0 0, .slice none 0 0] (.slice Ao out.length co) out) := ⟨BS.start (Kd.R_below HO.out hd2.below) (below_then HF.out HF.out.size hd2.below) _⟩
          obtain ⟨g, hg⟩ : ∃ g, g = w2.heap.size := ⟨_, rfl⟩
          have hsz2 := hd2.below.size
          clear hd2
          go_wp2_with fail
          rw [← hg] at H ⊢
          have HWG : Aside0 (wr.heap.size ≤ g) := ⟨by rw [hg]; exact hsz2⟩
          clear hg hsz2
          refine (at_any s _ (i + 1) (by go_num) _).mono ?_
          rintro e w3 ⟨rfl, hd3⟩
          have n0_ := Aside0.mk (H.out.call hd3.below)
          clear H hd3
          have H := n0_
          clear n0_
          have q2 := tmod_small q0 5
          have c0 := H.out.cell 0 (u := .int .u8 9) rfl
          have f0 := H.out.free 0
          go_wp2_with fail
          clear c0 f0
          refine (at_any s _ (i + 1) (by go_num) _).mono ?_
          rintro e w4 ⟨rfl, hd4⟩
          have n0_ := Aside0.mk (H.out.call hd4.below)
          clear H hd4
          have H := n0_
          clear n0_
          have q3 := tmod_small q0 32
          have c1 := H.out.cell 1 (u := .int .u8 0) rfl
          have f1 := H.out.free 1
          go_wp2_with fail
          clear c1 f1
          have n0_ := Aside0.mk (H.out.set 1 (.int .u8 (hd (beh s (i + 1)) % 32)) (cs' := #[.int .u8 9, .int .u8 (hd (beh s (i + 1)) % 32), .int .i64 0, .string ⟨#[]⟩, .slice none 0 0, .slice none 0 0]) rfl)
          clear H
          have H := n0_
          clear n0_
          generalize World.setCell _ _ _ = ws4 at H ⊢
          refine (at_any s _ (i + 2) (by go_num) _).mono ?_
          rintro e w5 ⟨rfl, hd5⟩
          have n0_ := Aside0.mk (H.out.call hd5.below)
          clear H hd5
          have H := n0_
          clear n0_
          have c0 := H.out.cell 0 (u := .int .u8 9) rfl
          have f0 := H.out.free 0
          have c1 := H.out.cell 1 (u := .int .u8 (hd (beh s (i + 1)) % 32)) rfl
          have f1 := H.out.free 1
          have c2 := H.out.cell 2 (u := .int .i64 0) rfl
          have f2 := H.out.free 2
          have c3 := H.out.cell 3 (u := .string ⟨#[]⟩) rfl
          have f3 := H.out.free 3
          have c4 := H.out.cell 4 (u := .slice none 0 0) rfl
          have f4 := H.out.free 4
          have c5 := H.out.cell 5 (u := .slice none 0 0) rfl
          have f5 := H.out.free 5
          have HE := Aside0.mk (H.out.set 2 (.int .i64 (hd (beh s (i + 2)))) (cs' := #[.int .u8 9, .int .u8 (hd (beh s (i + 1)) % 32), .int .i64 (hd (beh s (i + 2))), .string ⟨#[]⟩, .slice none 0 0, .slice none 0 0]) rfl)
          have HP2 : Aside0 (out ++ [(⟨9, hd (beh s (i + 1)) % 32, hd (beh s (i + 2)), ⟨#[]⟩, ⟨[], []⟩⟩ : S26)] ++ dec (gk - 1) (beh s (i + 3)) = L) := ⟨dec_next HP.out hi (by have := HK.out; have := HJ.out; omega) (by have h := act_k9 (beh s i) hk9; simp only [tl_beh] at h; exact h)⟩
          clear HP
          go_wp2_with (at_builtin; refine Kd.R_append k26 (w0 := z) z.heap.size rfl (.tmp 145) (.tmp 147) 27 26 (.agg #[(.int .u8 0), (.int .u8 0), (.int .i64 0), (.string ⟨#[]⟩), (.slice none 0 0), (.slice none 0 0)]) 80 rfl Tryd.underlying27 info26 rfl (by decide) (by omega) (.slice Ao out.length co) out ⟨9, hd (beh s (i + 1)) % 32, hd (beh s (i + 2)), ⟨#[]⟩, ⟨[], []⟩⟩ [.int .u8 9, .int .u8 (hd (beh s (i + 1)) % 32), .int .i64 (hd (beh s (i + 2))), .string ⟨#[]⟩, .slice none 0 0, .slice none 0 0] (fun _ => True) (fun _ => False) rfl (by first | rfl | simp [Act.eval]) (k26_mkM _ _ _ _ (Kd.R_nil _ _ _ _ _) (Kd.R_nil _ _ _ _ _)) (fun _ hk => hk.elim) (fun _ _ => trivial) (Kd.R_mono HE.out.own (fun _ _ => trivial)) HE.out.fr HE.out.fr.size (by omega) ?_; intro nv w9 ho hb hgr hat)
          have HO9 := Aside0.mk ho
          have HF9 := Aside0.mk hb
          clear ho hb hgr hat HE H HO HF
          clear c0 f0 c1 f1 c2 f2 c3 f3 c4 f4 c5 f5
          go_wp2
          go_roundg (gk - 1)
          case measure => have := HK.out; have := HJ.out; omega
          case rel => exact ⟨j + 1, (i + 3), out ++ [(⟨9, hd (beh s (i + 1)) % 32, hd (beh s (i + 2)), ⟨#[]⟩, ⟨[], []⟩⟩ : S26)], by go_num, by have := HK.out; have := HJ.out; omega, by simp [HJ.out], by have := HS.out; omega, HP2, HO9, HF9⟩
      · have HE : Aside0 (out = L) := ⟨by
          rw [← HP.out]
          obtain rfl : gk = 0 := by have := HK.out; have := HJ.out; omega
          simp [dec]⟩
        go_wp2
        go_ret
        exact ⟨_, rfl, by rw [← HE.out]; exact HO.out, HF.out⟩
    · have HE : Aside0 (out = L) := ⟨by
        rw [← HP.out]
        have : beh s i = [] := List.eq_nil_of_length_eq_zero (by simp [beh, bytesOf_length]; omega)
        rw [this, dec_nil, List.append_nil]⟩
      go_wp2
      go_ret
      exact ⟨_, rfl, by rw [← HE.out]; exact HO.out, HF.out⟩
end Go.Proofs.YtahfcdlggaoakaaDoor.Rd

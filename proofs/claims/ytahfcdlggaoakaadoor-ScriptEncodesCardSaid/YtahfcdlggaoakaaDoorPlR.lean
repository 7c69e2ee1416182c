/- The document's Plain: what it answers is plainB. -/
import Derived.Test.YtahfcdlggaoakaaDoorPScriptEncodesx3
import Derived.Test.YtahfcdlggaoakaaDoorRefA
namespace Go.Proofs.YtahfcdlggaoakaaDoor.Rd
open Go.RowKit Go.Proofs.YtahfcdlggaoakaaDoorW.PrintWords Go.Proofs.YtahfcdlggaoakaaDoorW.PrintLast Go.Proofs.YtahfcdlggaoakaaDoorW.PrintMore
open Go.Proofs.YtahfcdlggaoakaaDoor.PScriptDecodes
set_option linter.unusedVariables false
set_option linter.unusedSimpArgs false

theorem byteOf_eq (x : Int) : PScriptEncodes.wapentakeref26_byteOf.f x = some (sml x) := by
  unfold PScriptEncodes.wapentakeref26_byteOf.f sml
  by_cases h : x ≥ 0
  · rw [if_pos h]
    congr 1
    rw [Bool.eq_iff_iff]
    simp
    omega
  · rw [if_neg h]
    congr 1
    rw [Bool.eq_iff_iff]
    simp
    omega
theorem ite_some (p : Prop) [Decidable p] (x : Bool) : (if p then some x else some false) = some (decide p && x) := by
  by_cases h : p <;> simp [h]
theorem toList_nil (txt : ByteArray) : (txt.toList = ([] : List UInt8)) ↔ txt.size = 0 := by
  have h := txt_empty txt
  rw [← List.isEmpty_iff, h, decide_eq_true_eq]
/-- What is answered of an act whose node, crash, and lack of a crash are known. -/
def fin (node crash none : Bool) (k n num : Int) (txt : ByteArray) : Bool :=
  if k = 1 then node && (decide (num = 0) && (decide ((txt.size : Int) < 65536) && none))
  else if k = 2 ∨ k = 3 ∨ k = 4 then decide (n = 0) && (sml num && (decide (txt.size = 0) && none))
  else if k = 5 then node && (sml num && (decide (txt.size = 0) && none))
  else if k = 6 then node && (sml num && (decide (txt.size = 0) && crash))
  else if k = 7 then node && (decide (num = 0) && (decide (txt.size = 0) && crash))
  else if k = 8 then node && (decide (num = 0) && (decide (txt.size = 0) && none))
  else if k = 9 then decide (n < 32) && (sml num && (decide (txt.size = 0) && none))
  else false
theorem j4_eq (q : Nat) (x3 x4 x6 : Bool) (k n num : Int) (txt : ByteArray) (ks ts : List Int) :
    PScriptEncodes.wapentakeref26_Plain.j4 (q + 2) x3 x4 x6 k n num txt ks ts = some (fin x3 x4 x6 k n num txt) := by
  simp only [PScriptEncodes.wapentakeref26_Plain.j4, PScriptEncodes.wapentakeref26_Plain.j5, byteOf_eq, Option.bind_some, ite_some, toList_nil]
  unfold fin
  by_cases h1 : k = 1
  · subst h1; simp
  by_cases h2 : k = 2
  · subst h2; simp
  by_cases h3 : k = 3
  · subst h3; simp
  by_cases h4 : k = 4
  · subst h4; simp
  by_cases h5 : k = 5
  · subst h5; simp
  by_cases h6 : k = 6
  · subst h6; simp
  by_cases h7 : k = 7
  · subst h7; simp
  by_cases h8 : k = 8
  · subst h8; simp
  by_cases h9 : k = 9
  · subst h9; simp
  simp [h1, h2, h3, h4, h5, h6, h7, h8, h9]
def nn (ks ts : List Int) : Bool := decide (ks.length = 0) && decide (ts.length = 0)
theorem j3_eq (q : Nat) (x3 c : Bool) (i k n num : Int) (txt : ByteArray) (ks ts : List Int) :
    PScriptEncodes.wapentakeref26_Plain.j3 (q + 3) x3 c i false k n num txt ks ts = some (fin x3 c (nn ks ts) k n num txt) := by
  unfold PScriptEncodes.wapentakeref26_Plain.j3
  rw [if_neg (by decide), j4_eq, j4_eq]
  unfold nn
  by_cases h : ks.length = 0
  · rw [if_pos (by omega)]
    have : ((ts.length : Int) == 0) = decide (ts.length = 0) := by rw [Bool.eq_iff_iff]; simp
    rw [this]
    simp [h]
  · rw [if_neg (by omega)]
    simp [h]
theorem l0_false (q : Nat) (x3 : Bool) (i k n num : Int) (txt : ByteArray) (ks ts : List Int) :
    PScriptEncodes.wapentakeref26_Plain.l0 (q + 4) x3 false i k n num txt ks ts = some (fin x3 false (nn ks ts) k n num txt) := by
  unfold PScriptEncodes.wapentakeref26_Plain.l0
  rw [j3_eq]
  split <;> rfl
def goodFrom (i : Nat) (ks ts : List Int) : Bool := (ks.drop i).all sml && (ts.drop i).all sml
theorem rd_at (xs : List Int) (i : Nat) (h : i < xs.length) : rd xs (i : Int) = xs[i] := by
  unfold rd
  rw [Int.toNat_natCast, List.getD_eq_getElem?_getD, List.getElem?_eq_getElem h]
  rfl
theorem l0_true (x3 : Bool) (k n num : Int) (txt : ByteArray) (ks ts : List Int) (hl : ks.length = ts.length) (h8 : ks.length < 8) : ∀ (d i r : Nat), i + d = ks.length →
    PScriptEncodes.wapentakeref26_Plain.l0 (2 * d + 4 + r) x3 true (i : Int) k n num txt ks ts = some (fin x3 (goodFrom i ks ts) (nn ks ts) k n num txt)
  | 0, i, r, h => by
    rw [show 2 * 0 + 4 + r = r + 3 + 1 by omega]
    unfold PScriptEncodes.wapentakeref26_Plain.l0
    rw [if_neg (by omega), j3_eq]
    have : goodFrom i ks ts = true := by
      unfold goodFrom
      rw [List.drop_of_length_le (by omega), List.drop_of_length_le (by omega)]
      rfl
    rw [this]
  | d + 1, i, r, h => by
    have hk : i < ks.length := by omega
    have ht : i < ts.length := by omega
    have e1 : wrap64 ((i : Int) + 1) = ((i + 1 : Nat) : Int) := by rw [w64 (by omega) (by omega)]; omega
    have eg : goodFrom i ks ts = (sml ks[i] && sml ts[i] && goodFrom (i + 1) ks ts) := by
      unfold goodFrom
      rw [List.drop_eq_getElem_cons hk, List.drop_eq_getElem_cons ht]
      simp only [List.all_cons]
      cases sml ks[i] <;> cases sml ts[i] <;> simp
    rw [show 2 * (d + 1) + 4 + r = (2 * d + 4 + r) + 1 + 1 by omega]
    unfold PScriptEncodes.wapentakeref26_Plain.l0
    rw [if_pos (by omega)]
    unfold PScriptEncodes.wapentakeref26_Plain.j3
    rw [if_pos rfl, if_pos (by omega), if_pos (by omega), rd_at ks i hk, rd_at ts i ht, byteOf_eq, byteOf_eq, Option.bind_some, Option.bind_some, if_pos (by omega : (i : Int) < (ts.length : Int)), e1, eg]
    have ih := l0_true x3 k n num txt ks ts hl h8 d (i + 1) r (by omega)
    rw [show 2 * d + 4 + r = (2 * d + r) + 4 by omega] at ih ⊢
    cases h1 : sml ks[i] with
    | false => rw [if_neg (by decide), l0_false]; rfl
    | true =>
      rw [if_pos rfl]
      cases h2 : sml ts[i] with
      | false => rw [l0_false]; rfl
      | true => rw [ih]; rfl
def crashB (ks ts : List Int) : Bool := decide (ks.length < 8) && (decide (ks.length = ts.length) && goodFrom 0 ks ts)
theorem plain_fin (k n num : Int) (txt : ByteArray) (ks ts : List Int) (r : Nat) :
    PScriptEncodes.wapentakeref26_Plain.f (30 + r) k n num txt ks ts = some (fin (decide (1 ≤ n) && decide (n ≤ 5)) (crashB ks ts) (nn ks ts) k n num txt) := by
  have hj : ∀ x3, PScriptEncodes.wapentakeref26_Plain.j0 (30 + r) x3 k n num txt ks ts = some (fin x3 (crashB ks ts) (nn ks ts) k n num txt) := by
    intro x3
    rw [show 30 + r = (26 + r) + 2 + 1 + 1 by omega]
    simp only [PScriptEncodes.wapentakeref26_Plain.j0, PScriptEncodes.wapentakeref26_Plain.j1]
    unfold crashB
    by_cases h8 : ks.length < 8
    · rw [if_pos (by omega)]
      by_cases hl : ks.length = ts.length
      · have : ((ks.length : Int) == (ts.length : Int)) = true := by rw [hl]; simp
        rw [this]
        have h := l0_true x3 k n num txt ks ts hl h8 ks.length 0 (26 + r + 2 - (2 * ks.length + 4)) (by omega)
        rw [show 2 * ks.length + 4 + (26 + r + 2 - (2 * ks.length + 4)) = 26 + r + 2 by omega] at h
        rw [show ((0 : Nat) : Int) = 0 from rfl] at h
        rw [h, decide_eq_true h8, decide_eq_true hl]
        rfl
      · have : ((ks.length : Int) == (ts.length : Int)) = false := by simp; omega
        rw [this, show 26 + r + 2 = (24 + r) + 4 by omega, l0_false]
        simp [hl]
    · rw [if_neg (by omega), show 26 + r + 2 = (24 + r) + 4 by omega, l0_false]
      simp [h8]
  unfold PScriptEncodes.wapentakeref26_Plain.f
  rw [hj, hj]
  by_cases h : n ≥ 1
  · rw [if_pos h]; simp [h]
  · rw [if_neg h]
    have : decide (1 ≤ n) = false := decide_eq_false h
    rw [this]; rfl
theorem bad_good (ks ts : List Int) : (!badAt (ks ++ ts)) = goodFrom 0 ks ts := by
  unfold badAt goodFrom
  simp only [List.drop_zero]
  rw [Bool.eq_iff_iff]
  simp [List.any_append]
theorem nn_good (ks ts : List Int) (h : nn ks ts = true) : goodFrom 0 ks ts = true ∧ ks.length = 0 ∧ ts.length = 0 := by
  unfold nn at h
  simp only [Bool.and_eq_true, decide_eq_true_eq] at h
  obtain ⟨h1, h2⟩ := h
  obtain rfl := List.eq_nil_of_length_eq_zero h1
  obtain rfl := List.eq_nil_of_length_eq_zero h2
  exact ⟨rfl, rfl, rfl⟩
/-- Without a crash. -/
theorem none_eq (ks ts : List Int) : (decide (ks.length = ts.length) && decide (ks.length < 8) && decide (ks.length = 0) && goodFrom 0 ks ts) = nn ks ts := by
  rw [Bool.eq_iff_iff]
  constructor
  · intro h
    simp only [Bool.and_eq_true, decide_eq_true_eq] at h
    unfold nn
    simp only [Bool.and_eq_true, decide_eq_true_eq]
    omega
  · intro h
    obtain ⟨h1, h2, h3⟩ := nn_good ks ts h
    simp only [Bool.and_eq_true, decide_eq_true_eq]
    exact ⟨⟨⟨by omega, by omega⟩, h2⟩, h1⟩
theorem crash_eq (ks ts : List Int) : (decide (ks.length = ts.length) && decide (ks.length < 8) && goodFrom 0 ks ts) = crashB ks ts := by
  unfold crashB
  cases decide (ks.length = ts.length) <;> cases decide (ks.length < 8) <;> rfl
theorem size_le (txt : ByteArray) : decide ((txt.size : Int) < 65536) = decide (txt.size ≤ 65535) := by
  rw [Bool.eq_iff_iff]
  simp only [decide_eq_true_eq]
  omega
theorem and_le (n : Nat) : (decide (n ≤ 65535) && decide (n = 0)) = decide (n = 0) := by
  rw [Bool.eq_iff_iff]
  simp only [Bool.and_eq_true, decide_eq_true_eq]
  omega
theorem sml_zero (n : Int) : (sml n && decide (n = 0)) = decide (n = 0) := by
  unfold sml
  rw [Bool.eq_iff_iff]
  simp only [Bool.and_eq_true, decide_eq_true_eq]
  omega
theorem plain_eq (k n num : Int) (txt : ByteArray) (ks ts : List Int) : fin (decide (1 ≤ n) && decide (n ≤ 5)) (crashB ks ts) (nn ks ts) k n num txt = plainB k n num txt ks ts := by
  unfold plainB
  rw [bad_good]
  have hn := none_eq ks ts
  have hcr := crash_eq ks ts
  have hz := sml_zero num
  have hs := and_le txt.size
  by_cases hk : 1 ≤ k ∧ k ≤ 9
  · have hc : k = 1 ∨ k = 2 ∨ k = 3 ∨ k = 4 ∨ k = 5 ∨ k = 6 ∨ k = 7 ∨ k = 8 ∨ k = 9 := by omega
    rw [← hcr, ← hn]
    unfold fin nodeOk tNum
    rw [size_le]
    generalize decide (1 ≤ n) = b1
    generalize decide (n ≤ 5) = b2
    generalize decide (n < 32) = b3
    generalize decide (n = 0) = b4
    revert hz hs
    generalize decide (num = 0) = b5
    generalize sml num = b6
    generalize decide (txt.size ≤ 65535) = b7
    generalize decide (txt.size = 0) = b8
    generalize decide (ks.length = ts.length) = b9
    generalize decide (ks.length < 8) = b10
    generalize decide (ks.length = 0) = b11
    generalize goodFrom 0 ks ts = b12
    clear hn hcr hk
    intro hz hs
    rcases hc with rfl | rfl | rfl | rfl | rfl | rfl | rfl | rfl | rfl
    all_goals
      simp
      cases b5 <;> cases b6 <;> cases b7 <;> cases b8 <;> simp_all [Bool.and_assoc]
  · have : fin (decide (1 ≤ n) && decide (n ≤ 5)) (crashB ks ts) (nn ks ts) k n num txt = false := by
      unfold fin
      rw [if_neg (by omega), if_neg (by omega), if_neg (by omega), if_neg (by omega), if_neg (by omega), if_neg (by omega), if_neg (by omega)]
    rw [this]
    have : (decide (1 ≤ k) && decide (k ≤ 9)) = false := by
      rw [← Bool.not_eq_true, Bool.and_eq_true, decide_eq_true_eq, decide_eq_true_eq]
      exact hk
    rw [this]
    rfl
theorem refplain_f (r : Nat) (k n num : Int) (txt : ByteArray) (ks ts : List Int) : PScriptEncodes.wapentakeref26_Plain.f (30 + r) k n num txt ks ts = some (plainB k n num txt ks ts) := by
  rw [plain_fin, plain_eq]
end Go.Proofs.YtahfcdlggaoakaaDoor.Rd

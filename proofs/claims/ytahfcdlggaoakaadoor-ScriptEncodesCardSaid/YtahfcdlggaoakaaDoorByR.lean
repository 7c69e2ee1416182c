/- The document's Bytes and Encode: what they answer, of acts, is putA and enc. -/
import Derived.Test.YtahfcdlggaoakaaDoorPlR
namespace Go.Proofs.YtahfcdlggaoakaaDoor.Rd
open Go.RowKit Go.Proofs.YtahfcdlggaoakaaDoorW.PrintWords Go.Proofs.YtahfcdlggaoakaaDoorW.PrintLast Go.Proofs.YtahfcdlggaoakaaDoorW.PrintMore
open Go.Proofs.YtahfcdlggaoakaaDoor.PScriptDecodes
set_option linter.unusedVariables false
set_option linter.unusedSimpArgs false

theorem one_eq (x : Int) (h0 : 0 ≤ x) (h1 : x ≤ 255) : PScriptEncodes.wapentakeref26_one.f x = some (strOfNums [x]) := by
  unfold PScriptEncodes.wapentakeref26_one.f
  rw [Int.emod_eq_of_lt h0 (by omega)]
theorem strOf_app (xs ys : List Int) : strOfNums xs ++ strOfNums ys = strOfNums (xs ++ ys) := by
  apply ByteArray.ext
  unfold strOfNums
  simp [ByteArray.data_append]
theorem szif {α : Type} (a b : ByteArray) (r : Option α) (h : a.size + b.size ≤ 100000000) : (if a.size + b.size ≤ 9223372036854775807 then r else none) = r :=
  if_pos (Nat.le_trans h (by decide))
theorem szs (xs ys : List Int) (h : xs.length + ys.length ≤ 100000000) : (strOfNums xs).size + (strOfNums ys).size ≤ 100000000 := by
  rw [strOf_size, strOf_size]; exact h
theorem bytes_tail (q : Nat) (x5 k n num : Int) (txt : ByteArray) (ks ts : List Int) (hn9 : 0 ≤ n) (hp : plainB k n num txt ks ts = true) :
    PScriptEncodes.wapentakeref26_Bytes.j1 (q + 1) (strOfNums [k - 1]) (strOfNums ([(ks.length : Int)] ++ pairBytes ks ts)) x5 false k n num txt ks ts = some (strOfNums (putOf k n num txt ks ts)) := by
  obtain ⟨h1, h2, hno, hsm, hnu, hts, htx, hle, hl8, hcr, hbad⟩ := (plainB_iff _ _ _ _ _ _).1 hp
  have hs : 0 ≤ num ∧ num ≤ 255 := by simpa [sml] using hsm
  have hc : k = 1 ∨ k = 2 ∨ k = 3 ∨ k = 4 ∨ k = 5 ∨ k = 6 ∨ k = 7 ∨ k = 8 ∨ k = 9 := by omega
  have hpl := pairBytes_len2 ks ts
  have hC : ([(ks.length : Int)] ++ pairBytes ks ts).length ≤ 20 := by rw [List.length_append]; simp; omega
  clear hp hnu htx hcr hbad h1 h2
  unfold PScriptEncodes.wapentakeref26_Bytes.j1
  rw [if_neg (by decide)]
  rcases hc with rfl | rfl | rfl | rfl | rfl | rfl | rfl | rfl | rfl
  · obtain ⟨hn0, hn1⟩ : 1 ≤ n ∧ n ≤ 5 := by simpa [nodeOk] using hno
    have et : ∀ X, strOfNums X ++ txt = strOfNums (X ++ bytesOf txt) := fun X => by rw [← strOf_app, strOf_bytes]
    have e2 : PScriptEncodes.wapentakeref26_one.f (txt.size : Int) = some (strOfNums [(txt.size : Int) % 256]) := rfl
    rw [if_pos rfl, w64 (x := n) (by omega) (by omega), w64 (x := n - 1) (by omega) (by omega), w64 (x := (txt.size : Int) / 256) (by omega) (by omega), one_eq (n - 1) (by omega) (by omega), one_eq ((txt.size : Int) / 256) (by omega) (by omega), e2]
    simp only [Option.bind_some]
    rw [szif _ _ _ (szs _ _ (by simp)), strOf_app, szif _ _ _ (szs _ _ (by simp)), strOf_app, szif _ _ _ (szs _ _ (by simp)), strOf_app, szif _ _ _ (by rw [strOf_size]; simp; omega), et, putOf_1]
    simp
  · rw [if_neg (by decide), if_neg (by decide), if_neg (by decide), if_neg (by decide), if_neg (by decide), if_neg (by decide), one_eq num hs.1 hs.2]
    simp only [Option.bind_some]
    rw [szif _ _ _ (szs _ _ (by simp)), strOf_app, putOf_2]
    rfl
  · rw [if_neg (by decide), if_neg (by decide), if_neg (by decide), if_neg (by decide), if_neg (by decide), if_neg (by decide), one_eq num hs.1 hs.2]
    simp only [Option.bind_some]
    rw [szif _ _ _ (szs _ _ (by simp)), strOf_app, putOf_3]
    rfl
  · rw [if_neg (by decide), if_neg (by decide), if_neg (by decide), if_neg (by decide), if_neg (by decide), if_neg (by decide), one_eq num hs.1 hs.2]
    simp only [Option.bind_some]
    rw [szif _ _ _ (szs _ _ (by simp)), strOf_app, putOf_4]
    rfl
  · obtain ⟨hn0, hn1⟩ : 1 ≤ n ∧ n ≤ 5 := by simpa [nodeOk] using hno
    rw [if_neg (by decide), if_pos rfl, w64 (x := n) (by omega) (by omega), w64 (x := n - 1) (by omega) (by omega), one_eq (n - 1) (by omega) (by omega), one_eq num hs.1 hs.2]
    simp only [Option.bind_some]
    rw [szif _ _ _ (szs _ _ (by simp)), strOf_app, szif _ _ _ (szs _ _ (by simp)), strOf_app, putOf_5]
    rfl
  · obtain ⟨hn0, hn1⟩ : 1 ≤ n ∧ n ≤ 5 := by simpa [nodeOk] using hno
    rw [if_neg (by decide), if_neg (by decide), if_pos rfl, w64 (x := n) (by omega) (by omega), w64 (x := n - 1) (by omega) (by omega), one_eq (n - 1) (by omega) (by omega), one_eq num hs.1 hs.2]
    simp only [Option.bind_some]
    rw [szif _ _ _ (szs _ _ (by simp)), strOf_app, szif _ _ _ (szs _ _ (by simp)), strOf_app, szif _ _ _ (szs _ _ (by simp at hC ⊢; omega)), strOf_app, putOf_6]
    rfl
  · obtain ⟨hn0, hn1⟩ : 1 ≤ n ∧ n ≤ 5 := by simpa [nodeOk] using hno
    rw [if_neg (by decide), if_neg (by decide), if_neg (by decide), if_pos rfl, w64 (x := n) (by omega) (by omega), w64 (x := n - 1) (by omega) (by omega), one_eq (n - 1) (by omega) (by omega)]
    simp only [Option.bind_some]
    rw [szif _ _ _ (szs _ _ (by simp)), strOf_app, szif _ _ _ (szs _ _ (by simp at hC ⊢; omega)), strOf_app, putOf_7]
    rfl
  · obtain ⟨hn0, hn1⟩ : 1 ≤ n ∧ n ≤ 5 := by simpa [nodeOk] using hno
    rw [if_neg (by decide), if_neg (by decide), if_neg (by decide), if_neg (by decide), if_pos rfl, w64 (x := n) (by omega) (by omega), w64 (x := n - 1) (by omega) (by omega), one_eq (n - 1) (by omega) (by omega)]
    simp only [Option.bind_some]
    rw [szif _ _ _ (szs _ _ (by simp)), strOf_app, putOf_8]
    rfl
  · have hn1 : n < 32 := by simpa [nodeOk] using hno
    rw [if_neg (by decide), if_neg (by decide), if_neg (by decide), if_neg (by decide), if_neg (by decide), if_pos rfl, w64 (x := n) (by omega) (by omega), one_eq n (by omega) (by omega), one_eq num hs.1 hs.2]
    simp only [Option.bind_some]
    rw [szif _ _ _ (szs _ _ (by simp)), strOf_app, szif _ _ _ (szs _ _ (by simp)), strOf_app, putOf_9]
    rfl
theorem bytes_l0 (x3 : ByteArray) (k n num : Int) (txt : ByteArray) (ks ts : List Int) (hl : ks.length = ts.length) (h8 : ks.length < 8) (hbad : badAt (ks ++ ts) = false) : ∀ (d i r : Nat), i + d = ks.length →
    PScriptEncodes.wapentakeref26_Bytes.l0 (2 * d + 2 + r) x3 (strOfNums ([(ks.length : Int)] ++ pairBytes (ks.take i) (ts.take i))) (i : Int) k n num txt ks ts =
      PScriptEncodes.wapentakeref26_Bytes.j1 (r + 1) x3 (strOfNums ([(ks.length : Int)] ++ pairBytes ks ts)) (ks.length : Int) false k n num txt ks ts
  | 0, i, r, h => by
    rw [show 2 * 0 + 2 + r = r + 1 + 1 by omega]
    obtain rfl : i = ks.length := by omega
    rw [show PScriptEncodes.wapentakeref26_Bytes.l0 (r + 1 + 1) x3 (strOfNums ([(ks.length : Int)] ++ pairBytes (ks.take ks.length) (ts.take ks.length))) (ks.length : Int) k n num txt ks ts = _ from PScriptEncodes.wapentakeref26_Bytes.l0.eq_2 _ _ _ _ _ _ _ _ _ _]
    rw [if_neg (by omega), List.take_length, hl, List.take_length]
  | d + 1, i, r, h => by
    have hk : i < ks.length := by omega
    have ht : i < ts.length := by omega
    have e1 : wrap64 ((i : Int) + 1) = ((i + 1 : Nat) : Int) := by rw [w64 (by omega) (by omega)]; omega
    have g1 := good_of hbad (List.mem_append_left ts (List.getElem_mem hk))
    have g2 := good_of hbad (List.mem_append_right ks (List.getElem_mem ht))
    have hpl := pairBytes_len2 (ks.take i) (ts.take i)
    have hti : (ks.take i).length ≤ 8 := by rw [List.length_take]; omega
    have hX : ([(ks.length : Int)] ++ pairBytes (ks.take i) (ts.take i)).length ≤ 30 := by rw [List.length_append]; simp only [List.length_cons, List.length_nil]; omega
    have ih := bytes_l0 x3 k n num txt ks ts hl h8 hbad d (i + 1) r (by omega)
    rw [pairBytes_snoc ks ts i hk ht] at ih
    have f1 : ks.getD i 0 = ks[i] := by rw [List.getD_eq_getElem?_getD, List.getElem?_eq_getElem hk]; rfl
    have f2 : ts.getD i 0 = ts[i] := by rw [List.getD_eq_getElem?_getD, List.getElem?_eq_getElem ht]; rfl
    rw [f1, f2] at ih
    generalize hXX : [(ks.length : Int)] ++ pairBytes (ks.take i) (ts.take i) = X at hX
    rw [← List.append_assoc, hXX] at ih
    rw [show 2 * (d + 1) + 2 + r = (2 * d + 2 + r) + 1 + 1 by omega]
    rw [PScriptEncodes.wapentakeref26_Bytes.l0.eq_2, if_pos (by omega), decide_eq_true (by omega : (i : Int) < (ts.length : Int)), PScriptEncodes.wapentakeref26_Bytes.j1.eq_2, if_pos rfl, if_pos (by omega), if_pos (by omega),
      rd_at ks i hk, rd_at ts i ht, one_eq _ g1.1 g1.2, one_eq _ g2.1 g2.2]
    simp only [Option.bind_some]
    rw [szif _ _ _ (szs _ _ (by simp; omega)), if_pos (by omega), strOf_app, szif _ _ _ (szs _ _ (by simp; omega)), strOf_app, e1, List.append_assoc]
    exact ih
theorem refbytes_f (r : Nat) (k n num : Int) (txt : ByteArray) (ks ts : List Int) (hn9 : 0 ≤ n) (hp : plainB k n num txt ks ts = true) : PScriptEncodes.wapentakeref26_Bytes.f (30 + r) k n num txt ks ts = some (strOfNums (putOf k n num txt ks ts)) := by
  obtain ⟨h1, h2, hno, hsm, hnu, hts, htx, hle, hl8, hcr, hbad⟩ := (plainB_iff _ _ _ _ _ _).1 hp
  unfold PScriptEncodes.wapentakeref26_Bytes.f
  rw [w64 (x := k) (by omega) (by omega), w64 (x := k - 1) (by omega) (by omega), one_eq (k - 1) (by omega) (by omega), one_eq (ks.length : Int) (by omega) (by omega)]
  simp only [Option.bind_some]
  have h := bytes_l0 (strOfNums [k - 1]) k n num txt ks ts hle hl8 hbad ks.length 0 (28 + r - 2 * ks.length) (by omega)
  rw [show 2 * ks.length + 2 + (28 + r - 2 * ks.length) = 30 + r by omega] at h
  rw [bytes_tail _ _ _ _ _ _ _ _ hn9 hp] at h
  exact h
/-- An act, as the printed contract of Encode has it. -/
def toE (a : S26) : PScriptEncodes.S26 := ⟨a.f0, a.f1, a.f2, a.f3, ⟨a.f4.f0, a.f4.f1⟩⟩
theorem rd_toE (l : List S26) (i : Nat) (h : i < l.length) : PScriptEncodes.rd_T26 (l.map toE) (i : Int) = toE l[i] := by
  unfold PScriptEncodes.rd_T26
  rw [Int.toNat_natCast, List.getD_eq_getElem?_getD, List.getElem?_map, List.getElem?_eq_getElem h]
  rfl
theorem C_toE {w : World} {A : Option Addr} {n : Nat} {l : List S26} (h : Kd.C k26 w A n l) : Kd.C PScriptEncodes.k26 w A n (l.map toE) := by
  refine ⟨by rw [List.length_map]; exact h.1, h.2.1, fun hn => ?_⟩
  obtain ⟨ad, e, hc⟩ := h.2.2 hn
  refine ⟨ad, e, fun j p hj => ?_⟩
  rw [List.getElem?_map] at hj
  obtain ⟨a, ha, rfl⟩ := Option.map_eq_some_iff.1 hj
  exact hc j a ha
theorem encE_l0 (l : List S26) (hok : ∀ a ∈ l, okA a) (h400 : l.length ≤ 400) : ∀ (d i : Nat) (acc : List Int), i + d = l.length → acc.length ≤ 66000 * i →
    PScriptEncodes.wapentakeref26_Encode.l0 (d + 31) (l.map toE) (strOfNums acc) (i : Int) = some (if (l.drop i).all plainA = true then (strOfNums (acc ++ putsA (l.drop i)), 0) else (⟨#[]⟩, 1))
  | 0, i, acc, h, ha => by
    rw [show 0 + 31 = 30 + 1 by rfl, PScriptEncodes.wapentakeref26_Encode.l0.eq_2, if_neg (by rw [List.length_map]; omega), List.drop_of_length_le (by omega)]
    simp [putsA]
  | d + 1, i, acc, h, ha => by
    have hi : i < l.length := by omega
    have e1 : wrap64 ((i : Int) + 1) = ((i + 1 : Nat) : Int) := by rw [w64 (by omega) (by omega)]; omega
    have hokA := hok _ (List.getElem_mem hi)
    have e2 : putsA (l.drop i) = putA l[i] ++ putsA (l.drop (i + 1)) := by
      unfold putsA
      rw [List.drop_eq_getElem_cons hi, List.flatMap_cons]
    rw [e2]
    rw [show d + 1 + 31 = (d + 31) + 1 by omega, PScriptEncodes.wapentakeref26_Encode.l0.eq_2, if_pos (by rw [List.length_map]; omega), if_pos (by omega), rd_toE l i hi]
    rw [show d + 31 = 30 + (d + 1) by omega]
    rw [show PScriptEncodes.wapentakeref26_Plain.f (30 + (d + 1)) (toE l[i]).f0 (toE l[i]).f1 (toE l[i]).f2 (toE l[i]).f3 (toE l[i]).f4.f0 (toE l[i]).f4.f1 = some (plainA l[i]) from refplain_f (d + 1) _ _ _ _ _ _]
    rw [Option.bind_some, List.drop_eq_getElem_cons hi, List.all_cons]
    cases hp : plainA l[i] with
    | false => simp
    | true =>
      rw [if_pos rfl]
      rw [show PScriptEncodes.wapentakeref26_Bytes.f (30 + (d + 1)) (toE l[i]).f0 (toE l[i]).f1 (toE l[i]).f2 (toE l[i]).f3 (toE l[i]).f4.f0 (toE l[i]).f4.f1 = some (strOfNums (putA l[i])) from refbytes_f (d + 1) _ _ _ _ _ _ hokA.2.1 hp]
      have hlen := putA_len hp
      rw [Option.bind_some, szif _ _ _ (szs _ _ (by omega)), strOf_app, e1, show 30 + (d + 1) = d + 31 by omega, encE_l0 l hok h400 d (i + 1) (acc ++ putA l[i]) (by omega) (by rw [List.length_append]; omega)]
      simp [List.append_assoc]
theorem encE_f (l : List S26) (hok : ∀ a ∈ l, okA a) : PScriptEncodes.wapentakeref26_Encode.f (l.length + 31) (l.map toE) = some (strOfNums (enc l).1, (enc l).2) := by
  unfold PScriptEncodes.wapentakeref26_Encode.f enc
  rw [List.length_map]
  by_cases h : 400 < l.length
  · rw [if_pos (by omega), if_pos h]
    rfl
  · rw [if_neg (by omega), if_neg h]
    have := encE_l0 l hok (by omega) l.length 0 [] (by omega) (by simp)
    rw [show strOfNums [] = (⟨#[]⟩ : ByteArray) from rfl, List.drop_zero, List.nil_append] at this
    rw [show ((0 : Nat) : Int) = 0 from rfl] at this
    rw [this]
    by_cases hp : l.all plainA = true
    · rw [if_pos hp, if_pos hp]
    · rw [if_neg hp, if_neg hp]
      rfl
/-- The document's Encode, called. -/
theorem refenc_any (A : Option Addr) (c : Nat) (l : List S26) (w : World) (hr : Kd.C k26 w A l.length l) (hc : l.length ≤ c) (hok : ∀ a ∈ l, okA a) :
    Calls Tryd.prog 16 #[.slice A l.length c] w fun e w' => e = .returned (.tuple #[.string (strOfNums (enc l).1), .int .i64 (enc l).2]) ∧ Below w.heap.size w w' := by
  have h := PScriptEncodes.wapentakeref26_Encode.calls (l.length + 31) A c (l.map toE) _ _ w (by rw [List.length_map]; exact C_toE hr) (by rw [List.length_map]; exact hc) (encE_f l hok)
  rw [List.length_map] at h
  exact h
/-- The document's Plain, called. -/
theorem refplain_any (k n num : Int) (txt : ByteArray) (A4 A5 : Option Addr) (c4 c5 : Nat) (ks ts : List Int) (w : World) (h4 : Kd.C (Kd.int .i64) w A4 ks.length ks) (h5 : Kd.C (Kd.int .i64) w A5 ts.length ts) (l4 : ks.length ≤ c4) (l5 : ts.length ≤ c5) :
    Calls Tryd.prog 17 #[.agg #[.int .u8 k, .int .u8 n, .int .i64 num, .string txt, .slice A4 ks.length c4, .slice A5 ts.length c5]] w fun e w' => e = .returned (.bool (plainB k n num txt ks ts)) ∧ Below w.heap.size w w' :=
  PScriptEncodes.wapentakeref26_Plain.calls 30 k n num txt A4 c4 ks A5 c5 ts _ w h4 l4 h5 l5 (refplain_f 0 k n num txt ks ts)
end Go.Proofs.YtahfcdlggaoakaaDoor.Rd

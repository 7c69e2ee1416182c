/- The document's at and crash: what they answer, in the words of hd, tl and pairs. -/
import Derived.Test.YtahfcdlggaoakaaDoorPlain
import Derived.Test.YtahfcdlggaoakaaDoorPScriptDecodesx2
namespace Go.Proofs.YtahfcdlggaoakaaDoor.Rd
open Go.RowKit Go.Proofs.YtahfcdlggaoakaaDoorW.PrintWords Go.Proofs.YtahfcdlggaoakaaDoorW.PrintLast Go.Proofs.YtahfcdlggaoakaaDoorW.PrintMore
open Go.Proofs.YtahfcdlggaoakaaDoor.PScriptDecodes
set_option linter.unusedVariables false
set_option linter.unusedSimpArgs false

theorem w64 {x : Int} (h0 : 0 ≤ x) (h1 : x ≤ 1000000) : wrap64 x = x := by
  unfold wrap64
  omega
/-- What stands at i and behind it. -/
abbrev beh (s : ByteArray) (i : Nat) : List Int := (bytesOf s).drop i
theorem hd_beh (s : ByteArray) (i : Nat) : hd (beh s i) = if i < s.size then bt s (i : Int) else 0 := by
  unfold hd beh bt bytesOf
  rw [Int.toNat_natCast]
  by_cases h : i < s.size
  · have hl : i < s.data.toList.length := by rw [data_length]; exact h
    rw [if_pos h, dif_pos h, List.headD_eq_head?_getD, List.head?_drop, List.getElem?_map, List.getElem?_eq_getElem hl]
    rfl
  · have hl : s.data.toList.length ≤ i := by rw [data_length]; omega
    rw [if_neg h, List.headD_eq_head?_getD, List.head?_drop, List.getElem?_map, List.getElem?_eq_none hl]
    rfl
theorem tl_beh (s : ByteArray) (i : Nat) : tl (beh s i) = beh s (i + 1) := by
  unfold tl beh
  rw [List.tail_drop]
theorem beh_bs (s : ByteArray) (i : Nat) : Bs (beh s i) := (bytesOf_bs s).drop i
theorem at_f (s : ByteArray) (i : Nat) : wapentakeref26_at.f s (i : Int) = some (hd (beh s i)) := by
  unfold wapentakeref26_at.f
  rw [hd_beh]
  by_cases h : i < s.size
  · have hb := bt_range s (i : Int)
    rw [if_pos (by omega), if_pos (by omega), if_pos h, w64 hb.1 (by omega)]
  · rw [if_neg (by omega), if_neg h]
theorem at_any (s : ByteArray) (i : Int) (k : Nat) (hi : i = (k : Int)) (w : World) : Calls Tryd.prog 28 #[.string s, .int .i64 i] w fun e w' => e = .returned (.int .i64 (hd (beh s k))) ∧ Drawn0 w w' := by
  subst hi
  exact wapentakeref26_at.calls s (k : Int) _ w (at_f s k)
theorem pairs_beh (s : ByteArray) (i : Nat) : ∀ j, (pairs j (beh s i)).2.2 = beh s (i + 2 * j)
  | 0 => rfl
  | j + 1 => by
    show tl (tl (pairs j (beh s i)).2.2) = _
    rw [pairs_beh s i j, tl_beh, tl_beh]
    congr 1
theorem crash_l (s : ByteArray) (i n : Nat) (hi : i ≤ 100000) (hn : n ≤ 8) : ∀ (q j : Nat), j + q = n →
    wapentakeref26_crash.l0 (q + 1) s ((i + 2 * j : Nat) : Int) (n : Int) (j : Int) (pairs j (beh s i)).1 (pairs j (beh s i)).2.1 = some ((pairs n (beh s i)).1, (pairs n (beh s i)).2.1, ((i + 2 * n : Nat) : Int))
  | 0, j, h => by
    obtain rfl : j = n := by omega
    unfold wapentakeref26_crash.l0
    rw [if_neg (by omega)]
  | q + 1, j, h => by
    unfold wapentakeref26_crash.l0
    have hp := pairs_len j (beh s i)
    have e1 : wrap64 (((i + 2 * j : Nat) : Int) + 1) = ((i + 2 * j + 1 : Nat) : Int) := by rw [w64 (by omega) (by omega)]; omega
    have e2 : wrap64 (((i + 2 * j : Nat) : Int) + 2) = ((i + 2 * (j + 1) : Nat) : Int) := by rw [w64 (by omega) (by omega)]; omega
    have e3 : wrap64 ((j : Int) + 1) = ((j + 1 : Nat) : Int) := by rw [w64 (by omega) (by omega)]; omega
    rw [if_pos (by omega), at_f, Option.bind_some, if_pos (by rw [hp.1]; omega), e1, at_f, Option.bind_some, if_pos (by rw [hp.2]; omega), e2, e3]
    have ih := crash_l s i n hi hn q (j + 1) (by omega)
    have f1 : (pairs (j + 1) (beh s i)).1 = (pairs j (beh s i)).1 ++ [hd (beh s (i + 2 * j))] := by
      show (pairs j (beh s i)).1 ++ [hd (pairs j (beh s i)).2.2] = _
      rw [pairs_beh]
    have f2 : (pairs (j + 1) (beh s i)).2.1 = (pairs j (beh s i)).2.1 ++ [hd (beh s (i + 2 * j + 1))] := by
      show (pairs j (beh s i)).2.1 ++ [hd (tl (pairs j (beh s i)).2.2)] = _
      rw [pairs_beh, tl_beh]
    rw [f1, f2] at ih
    exact ih
theorem crash_f (s : ByteArray) (i : Nat) (hi : i ≤ 99999) : wapentakeref26_crash.f ((hd (beh s i) % 8).toNat + 1) s (i : Int) =
    some ((pairs (hd (beh s i) % 8).toNat (beh s (i + 1))).1, (pairs (hd (beh s i) % 8).toNat (beh s (i + 1))).2.1, ((i + 1 + 2 * (hd (beh s i) % 8).toNat : Nat) : Int)) := by
  have hb := (beh_bs s i).hd
  unfold wapentakeref26_crash.f
  rw [at_f, Option.bind_some]
  have e1 : wrap64 ((i : Int) + 1) = ((i + 1 + 2 * 0 : Nat) : Int) := by rw [w64 (by omega) (by omega)]; omega
  have e2 : Int.tmod (hd (beh s i)) 8 = (((hd (beh s i) % 8).toNat : Nat) : Int) := by rw [Int.tmod_eq_emod_of_nonneg hb.1]; omega
  rw [e1, e2]
  exact crash_l s (i + 1) _ (by omega) (by omega) _ 0 (by omega)
/-- The document's crash, called. -/
def RefCrashPost (s : ByteArray) (k : Nat) (w : World) (e : Ending) (w' : World) : Prop :=
  ∃ (v0 v1 : Value) (n : Nat) (KS TS : List Int), n = (hd (beh s k) % 8).toNat ∧ KS = (pairs n (tl (beh s k))).1 ∧ TS = (pairs n (tl (beh s k))).2.1 ∧ beh s (k + 1 + 2 * n) = (pairs n (tl (beh s k))).2.2 ∧ n ≤ 7 ∧
    e = .returned (.tuple #[.agg #[v0, v1], .int .i64 ((k + 1 + 2 * n : Nat) : Int)]) ∧ RI w' w.heap.size (fun k_ => some k_ ≠ v1.ownBlock) v0 KS ∧ RI w' w.heap.size (fun k_ => some k_ ≠ v0.ownBlock) v1 TS ∧ Below w.heap.size w w'
theorem crash_any2 (s : ByteArray) (i : Int) (k : Nat) (hi : i = (k : Int)) (hk : k ≤ 99999) (w : World) : Calls Tryd.prog 29 #[.string s, .int .i64 i] w (RefCrashPost s k w) := by
  subst hi
  refine (wapentakeref26_crash.calls _ s (k : Int) _ _ _ w (crash_f s k hk)).mono ?_
  rintro e w' ⟨v0, v1, he, h0, h1, hb⟩
  have hb8 := (beh_bs s k).hd
  refine ⟨v0, v1, _, _, _, rfl, rfl, rfl, ?_, ?_, he, ?_, ?_, hb⟩
  · rw [tl_beh, pairs_beh]
  · omega
  · rw [tl_beh]; exact h0
  · rw [tl_beh]; exact h1
theorem bytes_ext {a b : ByteArray} (h : bytesOf a = bytesOf b) : a = b := by rw [← strOf_bytes a, ← strOf_bytes b, h]
theorem bytes_app (a b : ByteArray) : bytesOf (a ++ b) = bytesOf a ++ bytesOf b := by
  unfold bytesOf
  rw [← List.map_append, ByteArray.data_append, Array.toList_append]
theorem bytes_cut (s : ByteArray) (i j : Nat) : bytesOf (s.extract i j) = (beh s i).take (j - i) := by
  unfold beh bytesOf
  rw [List.map_drop.symm, List.map_take.symm]
  congr 1
  simp [ByteArray.data_extract, Array.toList_extract, List.extract]
theorem bytes_strOf (xs : List Int) (h : Bs xs) : bytesOf (strOfNums xs) = xs := by
  unfold bytesOf strOfNums
  simp only [List.map_map]
  conv => rhs; rw [← List.map_id xs]
  apply List.map_congr_left
  intro x hx
  have := h x hx
  show ((UInt8.ofNat x.toNat).toNat : Int) = x
  rw [UInt8.toNat_ofNat']
  omega
theorem text_step (s : ByteArray) (i m : Nat) (h : i + m < s.size) : strOfNums ((beh s i).take m) ++ s.extract (i + m) (i + m + 1) = strOfNums ((beh s i).take (m + 1)) := by
  apply bytes_ext
  have hb : ∀ k, Bs ((beh s i).take k) := fun k x hx => beh_bs s i x (List.mem_of_mem_take hx)
  rw [bytes_app, bytes_strOf _ (hb m), bytes_strOf _ (hb (m + 1)), bytes_cut, Nat.add_sub_cancel_left]
  have e : beh s (i + m) = (beh s i).drop m := by unfold beh; rw [List.drop_drop]
  rw [e, List.take_add]
theorem text_of (s : ByteArray) (i N : Nat) (hN : N = textLen (beh s i)) : textOf (beh s i) = strOfNums ((beh s (i + 2)).take N) ∧ textRest (beh s i) = beh s (i + 2 + N) := by
  unfold textOf textRest
  rw [← hN, tl_beh, tl_beh]
  exact ⟨rfl, by unfold beh; rw [List.drop_drop]⟩
theorem text_len2 (s : ByteArray) (i : Nat) : textLen (beh s i) = min (256 * hd (beh s i) + hd (beh s (i + 1))).toNat (s.size - (i + 2)) := by
  unfold textLen
  rw [tl_beh, tl_beh, List.length_drop, bytesOf_length]
end Go.Proofs.YtahfcdlggaoakaaDoor.Rd

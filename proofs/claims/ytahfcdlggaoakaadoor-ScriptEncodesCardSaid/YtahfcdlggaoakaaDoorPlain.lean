/- The plain laws of the script: acts of bytes, bytes of acts, there and back. No memory in it. -/
import Derived.Test.YtahfcdlggaoakaaDoorEnc
namespace Go.Proofs.YtahfcdlggaoakaaDoor.Rd
open Go.RowKit Go.Proofs.YtahfcdlggaoakaaDoorW.PrintWords Go.Proofs.YtahfcdlggaoakaaDoorW.PrintLast Go.Proofs.YtahfcdlggaoakaaDoorW.PrintMore
open Go.Proofs.YtahfcdlggaoakaaDoor.PScriptDecodes
set_option linter.unusedVariables false
set_option linter.unusedSimpArgs false

def Bs (xs : List Int) : Prop := ∀ x ∈ xs, 0 ≤ x ∧ x ≤ 255
theorem Bs.tl {xs : List Int} (h : Bs xs) : Bs (tl xs) := fun x hx => h x (List.mem_of_mem_tail hx)
theorem Bs.hd {xs : List Int} (h : Bs xs) : 0 ≤ hd xs ∧ hd xs ≤ 255 := head_byte h
theorem Bs.drop {xs : List Int} (h : Bs xs) (n : Nat) : Bs (xs.drop n) := fun x hx => h x (List.mem_of_mem_drop hx)
theorem bytesOf_bs (s : ByteArray) : Bs (bytesOf s) := by
  intro x hx
  unfold bytesOf at hx
  obtain ⟨b, _, rfl⟩ := List.mem_map.1 hx
  have := b.toNat_lt
  omega

theorem hd_cons (x : Int) (xs : List Int) : hd (x :: xs) = x := rfl
theorem tl_cons (x : Int) (xs : List Int) : tl (x :: xs) = xs := rfl
theorem tl_len (xs : List Int) : (tl xs).length = xs.length - 1 := by unfold tl; simp
theorem pairs_cons (n : Nat) : ∀ (x y : Int) (r : List Int), pairs (n + 1) (x :: y :: r) = (x :: (pairs n r).1, y :: (pairs n r).2.1, (pairs n r).2.2) := by
  induction n with
  | zero => intro x y r; rfl
  | succ n ih =>
    intro x y r
    rw [pairs, ih]
    simp [pairs]
theorem pairs_put : ∀ (ks ts ys : List Int), ks.length = ts.length → pairs ks.length (pairBytes ks ts ++ ys) = (ks, ts, ys)
  | [], [], ys, _ => rfl
  | [], _ :: _, _, h => by simp at h
  | _ :: _, [], _, h => by simp at h
  | k :: ks, t :: ts, ys, h => by
    have ih := pairs_put ks ts ys (by simpa using h)
    simp only [List.length_cons, pairBytes, List.cons_append, pairs_cons, ih]
theorem pairs_rest (n : Nat) (xs : List Int) : (pairs n xs).2.2.length ≤ xs.length := by
  induction n with
  | zero => exact Nat.le_refl _
  | succ n ih =>
    simp only [pairs, tl_len]
    omega
theorem pairs_bs (n : Nat) (xs : List Int) (h : Bs xs) : Bs (pairs n xs).2.2 ∧ Bs (pairs n xs).1 ∧ Bs (pairs n xs).2.1 := by
  induction n with
  | zero => exact ⟨h, by intro x hx; simp [pairs] at hx, by intro x hx; simp [pairs] at hx⟩
  | succ n ih =>
    obtain ⟨h1, h2, h3⟩ := ih
    refine ⟨h1.tl.tl, fun x hx => ?_, fun x hx => ?_⟩
    · simp only [pairs, List.mem_append, List.mem_singleton] at hx
      rcases hx with hx | rfl
      · exact h2 x hx
      · exact h1.hd
    · simp only [pairs, List.mem_append, List.mem_singleton] at hx
      rcases hx with hx | rfl
      · exact h3 x hx
      · exact h1.tl.hd

theorem strOf_bytes (s : ByteArray) : strOfNums (bytesOf s) = s := by
  unfold strOfNums bytesOf
  simp [Function.comp_def]
theorem rest_len (xs : List Int) (h : xs ≠ []) : (actRest xs).length < xs.length := by
  have hx : 0 < xs.length := List.length_pos_iff.2 h
  have h0 := tl_len xs
  unfold actRest
  have h1 : ∀ k r, (actNode k r).2.length ≤ r.length := by
    intro k r
    unfold actNode
    split
    · simp [tl_len]
    · split
      · simp [tl_len]
      · exact Nat.le_refl _
  have h2 : ∀ k r, (actNum k r).2.length ≤ r.length := by
    intro k r
    unfold actNum
    split
    · simp [tl_len]
    · exact Nat.le_refl _
  have h3 : ∀ k r, (actText k r).2.length ≤ r.length := by
    intro k r
    unfold actText
    split
    · simp only [textRest, List.length_drop, tl_len]; omega
    · exact Nat.le_refl _
  have h4 : ∀ k r, (actCrash k r).2.2.length ≤ r.length := by
    intro k r
    unfold actCrash
    split
    · have := pairs_rest (hd r % 8).toNat (tl r); rw [tl_len] at this; omega
    · exact Nat.le_refl _
  generalize 1 + hd xs % 9 = k
  have a1 := h1 k (tl xs)
  have a2 := h2 k (actNode k (tl xs)).2
  have a3 := h3 k (actNum k (actNode k (tl xs)).2).2
  have a4 := h4 k (actText k (actNum k (actNode k (tl xs)).2).2).2
  omega
theorem dec_len (n : Nat) : ∀ xs, (dec n xs).length ≤ n ∧ (dec n xs).length ≤ xs.length := by
  induction n with
  | zero => intro xs; simp [dec]
  | succ n ih =>
    intro xs
    unfold dec
    split
    · simp
    · rename_i h
      have := ih (actRest xs)
      have := rest_len xs h
      simp only [List.length_cons]
      omega
theorem dec_nil (n : Nat) : dec n [] = [] := by cases n <;> simp [dec]
theorem dec_empty (n : Nat) (xs : List Int) : dec (n + 1) xs = [] ↔ xs = [] := by
  unfold dec
  split
  · rename_i h; simp [h]
  · rename_i h; simp [h]

theorem strOf_size (xs : List Int) : (strOfNums xs).size = xs.length := by
  unfold strOfNums
  simp [ByteArray.size]
/-- What is decoded, kind by kind. -/
structure Decoded (xs : List Int) (a : S26) (r : List Int) : Prop where
  e : actOf xs = a
  r : actRest xs = r
theorem act_k1 (xs : List Int) (h : hd xs % 9 = 0) : Decoded xs ⟨1, 1 + hd (tl xs) % 5, 0, textOf (tl (tl xs)), ⟨[], []⟩⟩ (textRest (tl (tl xs))) :=
  ⟨by simp [actOf, actNode, actNum, actText, actCrash, h], by simp [actRest, actNode, actNum, actText, actCrash, h]⟩
theorem act_k234 (xs : List Int) (k : Int) (h : hd xs % 9 = k - 1) (hk : 2 ≤ k ∧ k ≤ 4) : Decoded xs ⟨k, 0, hd (tl xs), ⟨#[]⟩, ⟨[], []⟩⟩ (tl (tl xs)) := by
  have e : 1 + hd xs % 9 = k := by omega
  have c1 : ¬ (k = 1 ∨ 5 ≤ k ∧ k ≤ 8) := by omega
  have c2 : ¬ k = 9 := by omega
  have c3 : 2 ≤ k ∧ k ≤ 6 ∨ k = 9 := by omega
  have c4 : ¬ k = 1 := by omega
  have c5 : ¬ (k = 6 ∨ k = 7) := by omega
  exact ⟨by simp only [actOf, e, actNode, actNum, actText, actCrash, if_neg c1, if_neg c2, if_pos c3, if_neg c4, if_neg c5], by simp only [actRest, e, actNode, actNum, actText, actCrash, if_neg c1, if_neg c2, if_pos c3, if_neg c4, if_neg c5]⟩
theorem act_k5 (xs : List Int) (h : hd xs % 9 = 4) : Decoded xs ⟨5, 1 + hd (tl xs) % 5, hd (tl (tl xs)), ⟨#[]⟩, ⟨[], []⟩⟩ (tl (tl (tl xs))) :=
  ⟨by simp [actOf, actNode, actNum, actText, actCrash, h], by simp [actRest, actNode, actNum, actText, actCrash, h]⟩
theorem act_k6 (xs : List Int) (h : hd xs % 9 = 5) : Decoded xs ⟨6, 1 + hd (tl xs) % 5, hd (tl (tl xs)), ⟨#[]⟩, ⟨(pairs (hd (tl (tl (tl xs))) % 8).toNat (tl (tl (tl (tl xs))))).1, (pairs (hd (tl (tl (tl xs))) % 8).toNat (tl (tl (tl (tl xs))))).2.1⟩⟩ (pairs (hd (tl (tl (tl xs))) % 8).toNat (tl (tl (tl (tl xs))))).2.2 :=
  ⟨by simp [actOf, actNode, actNum, actText, actCrash, h], by simp [actRest, actNode, actNum, actText, actCrash, h]⟩
theorem act_k7 (xs : List Int) (h : hd xs % 9 = 6) : Decoded xs ⟨7, 1 + hd (tl xs) % 5, 0, ⟨#[]⟩, ⟨(pairs (hd (tl (tl xs)) % 8).toNat (tl (tl (tl xs)))).1, (pairs (hd (tl (tl xs)) % 8).toNat (tl (tl (tl xs)))).2.1⟩⟩ (pairs (hd (tl (tl xs)) % 8).toNat (tl (tl (tl xs)))).2.2 :=
  ⟨by simp [actOf, actNode, actNum, actText, actCrash, h], by simp [actRest, actNode, actNum, actText, actCrash, h]⟩
theorem act_k8 (xs : List Int) (h : hd xs % 9 = 7) : Decoded xs ⟨8, 1 + hd (tl xs) % 5, 0, ⟨#[]⟩, ⟨[], []⟩⟩ (tl (tl xs)) :=
  ⟨by simp [actOf, actNode, actNum, actText, actCrash, h], by simp [actRest, actNode, actNum, actText, actCrash, h]⟩
theorem act_k9 (xs : List Int) (h : hd xs % 9 = 8) : Decoded xs ⟨9, hd (tl xs) % 32, hd (tl (tl xs)), ⟨#[]⟩, ⟨[], []⟩⟩ (tl (tl (tl xs))) :=
  ⟨by simp [actOf, actNode, actNum, actText, actCrash, h], by simp [actRest, actNode, actNum, actText, actCrash, h]⟩

theorem sml_of {n : Int} (h : 0 ≤ n ∧ n ≤ 255) : sml n = true := by simp [sml, h]
theorem bad_of_bs {xs ys : List Int} (h1 : Bs xs) (h2 : Bs ys) : badAt (xs ++ ys) = false := by
  unfold badAt
  rw [List.any_eq_false]
  intro x hx
  rcases List.mem_append.1 hx with hx | hx
  · simp [sml_of (h1 x hx)]
  · simp [sml_of (h2 x hx)]

theorem text_len {xs : List Int} (h : Bs xs) : (textOf xs).size ≤ 65535 := by
  unfold textOf
  rw [strOf_size, List.length_take]
  have h0 := h.hd
  have h1 := h.tl.hd
  unfold textLen
  omega
/-- What is decoded is plain; its kind and node are bytes; what is left are bytes. -/
theorem act_plain (xs : List Int) (h : Bs xs) : plainA (actOf xs) = true ∧ okA (actOf xs) ∧ Bs (actRest xs) := by
  have b0 := h.hd
  have b1 := h.tl.hd
  have b2 := h.tl.tl.hd
  have b3 := h.tl.tl.tl.hd
  have h9 : hd xs % 9 = 0 ∨ (hd xs % 9 = 1 ∨ hd xs % 9 = 2 ∨ hd xs % 9 = 3) ∨ hd xs % 9 = 4 ∨ hd xs % 9 = 5 ∨ hd xs % 9 = 6 ∨ hd xs % 9 = 7 ∨ hd xs % 9 = 8 := by omega
  unfold plainA
  rw [plainB_iff]
  unfold okA
  rcases h9 with h9 | h9 | h9 | h9 | h9 | h9 | h9
  · obtain ⟨e, r⟩ := act_k1 xs h9
    rw [e, r]
    dsimp only
    refine ⟨⟨by decide, by decide, by simp [nodeOk]; omega, by decide, .inr rfl, text_len h.tl.tl, .inl rfl, rfl, by decide, .inr rfl, rfl⟩, ⟨⟨by decide, by decide⟩, by omega, by omega⟩, ?_⟩
    · unfold textRest; exact h.tl.tl.tl.tl.drop _
  · obtain ⟨k, hk, hk2⟩ : ∃ k : Int, hd xs % 9 = k - 1 ∧ 2 ≤ k ∧ k ≤ 4 := ⟨hd xs % 9 + 1, by omega, by omega⟩
    obtain ⟨e, r⟩ := act_k234 xs k hk hk2
    rw [e, r]
    dsimp only
    refine ⟨⟨by omega, by omega, ?_, sml_of b1, .inl ?_, by decide, .inr rfl, rfl, by decide, .inr rfl, rfl⟩, ⟨⟨by omega, by omega⟩, by decide, by decide⟩, h.tl.tl⟩
    · simp only [nodeOk]; rw [if_neg (by omega), if_neg (by omega)]; rfl
    · simp [tNum]; omega
  · obtain ⟨e, r⟩ := act_k5 xs h9
    rw [e, r]
    dsimp only
    refine ⟨⟨by decide, by decide, by simp [nodeOk]; omega, sml_of b2, .inl rfl, by decide, .inr rfl, rfl, by decide, .inr rfl, rfl⟩, ⟨⟨by decide, by decide⟩, by omega, by omega⟩, h.tl.tl.tl⟩
  · obtain ⟨e, r⟩ := act_k6 xs h9
    rw [e, r]
    dsimp only
    obtain ⟨q1, q2, q3⟩ := pairs_bs (hd (tl (tl (tl xs))) % 8).toNat (tl (tl (tl (tl xs)))) h.tl.tl.tl.tl
    obtain ⟨l1, l2⟩ := pairs_len (hd (tl (tl (tl xs))) % 8).toNat (tl (tl (tl (tl xs))))
    refine ⟨⟨by decide, by decide, by simp [nodeOk]; omega, sml_of b2, .inl rfl, by decide, .inr rfl, by rw [l1, l2], by rw [l1]; omega, .inl (.inl rfl), bad_of_bs q2 q3⟩, ⟨⟨by decide, by decide⟩, by omega, by omega⟩, q1⟩
  · obtain ⟨e, r⟩ := act_k7 xs h9
    rw [e, r]
    dsimp only
    obtain ⟨q1, q2, q3⟩ := pairs_bs (hd (tl (tl xs)) % 8).toNat (tl (tl (tl xs))) h.tl.tl.tl
    obtain ⟨l1, l2⟩ := pairs_len (hd (tl (tl xs)) % 8).toNat (tl (tl (tl xs)))
    refine ⟨⟨by decide, by decide, by simp [nodeOk]; omega, by decide, .inr rfl, by decide, .inr rfl, by rw [l1, l2], by rw [l1]; omega, .inl (.inr rfl), bad_of_bs q2 q3⟩, ⟨⟨by decide, by decide⟩, by omega, by omega⟩, q1⟩
  · obtain ⟨e, r⟩ := act_k8 xs h9
    rw [e, r]
    dsimp only
    refine ⟨⟨by decide, by decide, by simp [nodeOk]; omega, by decide, .inr rfl, by decide, .inr rfl, rfl, by decide, .inr rfl, rfl⟩, ⟨⟨by decide, by decide⟩, by omega, by omega⟩, h.tl.tl⟩
  · obtain ⟨e, r⟩ := act_k9 xs h9
    rw [e, r]
    dsimp only
    refine ⟨⟨by decide, by decide, by simp [nodeOk]; omega, sml_of b2, .inl rfl, by decide, .inr rfl, rfl, by decide, .inr rfl, rfl⟩, ⟨⟨by decide, by decide⟩, by omega, by omega⟩, h.tl.tl.tl⟩
theorem dec_plain (n : Nat) : ∀ xs, Bs xs → (dec n xs).all plainA = true ∧ ∀ a ∈ dec n xs, okA a := by
  induction n with
  | zero => intro xs _; exact ⟨rfl, by intro a ha; simp [dec] at ha⟩
  | succ n ih =>
    intro xs h
    unfold dec
    split
    · exact ⟨rfl, by intro a ha; simp at ha⟩
    · obtain ⟨p1, p2, p3⟩ := act_plain xs h
      obtain ⟨q1, q2⟩ := ih _ p3
      refine ⟨by rw [List.all_cons, p1, q1]; rfl, fun a ha => ?_⟩
      rcases List.mem_cons.1 ha with rfl | ha
      · exact p2
      · exact q2 a ha
theorem enc_dec (xs : List Int) (h : Bs xs) : enc (dec 400 xs) = (putsA (dec 400 xs), 0) := by
  unfold enc
  rw [if_neg (by have := (dec_len 400 xs).1; omega), if_pos (dec_plain 400 xs h).1]

theorem size_zero {t : ByteArray} (h : t.size = 0) : t = ⟨#[]⟩ := by
  obtain ⟨d⟩ := t
  have : d = #[] := Array.eq_empty_of_size_eq_zero h
  rw [this]
theorem len_zero {xs : List Int} (h : xs.length = 0) : xs = [] := List.eq_nil_of_length_eq_zero h
theorem S26_eta (a : S26) : a = ⟨a.f0, a.f1, a.f2, a.f3, ⟨a.f4.f0, a.f4.f1⟩⟩ := rfl

/-- A plain act's bytes are decoded as it, whatever stands behind them. -/
theorem back_fields (k n num : Int) (text : ByteArray) (ks ts ys : List Int) (h : plainB k n num text ks ts = true) (hn0 : 0 ≤ n) :
    actOf (putOf k n num text ks ts ++ ys) = ⟨k, n, num, text, ⟨ks, ts⟩⟩ ∧ actRest (putOf k n num text ks ts ++ ys) = ys := by
  obtain ⟨h1, h2, hno, hsm, hnu, hts, htx, hle, hl8, hcr, hbad⟩ := (plainB_iff _ _ _ _ _ _).1 h
  have h9 : k = 1 ∨ (2 ≤ k ∧ k ≤ 4) ∨ k = 5 ∨ k = 6 ∨ k = 7 ∨ k = 8 ∨ k = 9 := by omega
  have notext : k ≠ 1 → text = ⟨#[]⟩ := fun hk => size_zero (htx.resolve_left hk)
  have nocrash : k ≠ 6 → k ≠ 7 → ks = [] ∧ ts = [] := fun h6 h7 => by
    have := hcr.resolve_left (by omega)
    exact ⟨len_zero this, len_zero (by omega)⟩
  have hs : 0 ≤ num ∧ num ≤ 255 := by simpa [sml] using hsm
  rcases h9 with rfl | hk | rfl | rfl | rfl | rfl | rfl
  · obtain ⟨rfl, rfl⟩ := nocrash (by decide) (by decide)
    have hn : 1 ≤ n ∧ n ≤ 5 := by simpa [nodeOk] using hno
    have hnum : num = 0 := hnu.resolve_left (by decide)
    subst hnum
    rw [putOf_1]
    obtain ⟨e, r⟩ := act_k1 ([0] ++ [n - 1] ++ ([(text.size : Int) / 256, (text.size : Int) % 256] ++ bytesOf text) ++ ys) (by simp [hd_cons])
    simp only [List.cons_append, List.nil_append, hd_cons, tl_cons] at e r ⊢
    have hl : textLen ((text.size : Int) / 256 :: (text.size : Int) % 256 :: (bytesOf text ++ ys)) = text.size := by
      unfold textLen
      simp only [hd_cons, tl_cons, List.length_append, bytesOf_length]
      omega
    have ht : textOf ((text.size : Int) / 256 :: (text.size : Int) % 256 :: (bytesOf text ++ ys)) = text := by
      unfold textOf
      rw [hl]
      simp only [tl_cons]
      rw [List.take_left' (bytesOf_length text)]
      exact strOf_bytes text
    have hr : textRest ((text.size : Int) / 256 :: (text.size : Int) % 256 :: (bytesOf text ++ ys)) = ys := by
      unfold textRest
      rw [hl]
      simp only [tl_cons]
      exact List.drop_left' (bytesOf_length text)
    rw [e, r, ht, hr]
    exact ⟨by rw [show 1 + (n - 1) % 5 = n by omega], rfl⟩
  · obtain ⟨rfl, rfl⟩ := nocrash (by omega) (by omega)
    obtain rfl := notext (by omega)
    have hn : n = 0 := by
      simp only [nodeOk] at hno
      rw [if_neg (by omega), if_neg (by omega)] at hno
      simpa using hno
    subst hn
    have hp : putOf k 0 num ⟨#[]⟩ [] [] = [k - 1, num] := by
      unfold putOf
      rw [if_neg (by omega), if_neg (by omega), if_pos (by omega), if_neg (by omega), if_neg (by omega)]
      rfl
    rw [hp]
    obtain ⟨e, r⟩ := act_k234 ([k - 1, num] ++ ys) k (by simp only [List.cons_append, hd_cons]; omega) hk
    simp only [List.cons_append, List.nil_append, hd_cons, tl_cons] at e r ⊢
    exact ⟨e, r⟩
  · obtain ⟨rfl, rfl⟩ := nocrash (by decide) (by decide)
    obtain rfl := notext (by decide)
    have hn : 1 ≤ n ∧ n ≤ 5 := by simpa [nodeOk] using hno
    rw [putOf_5]
    obtain ⟨e, r⟩ := act_k5 ([4] ++ [n - 1] ++ [num] ++ ys) (by simp [hd_cons])
    simp only [List.cons_append, List.nil_append, hd_cons, tl_cons] at e r ⊢
    rw [e, r, show 1 + (n - 1) % 5 = n by omega]
    exact ⟨rfl, rfl⟩
  · obtain rfl := notext (by decide)
    have hn : 1 ≤ n ∧ n ≤ 5 := by simpa [nodeOk] using hno
    rw [putOf_6]
    obtain ⟨e, r⟩ := act_k6 ([5] ++ [n - 1] ++ [num] ++ ([(ks.length : Int)] ++ pairBytes ks ts) ++ ys) (by simp [hd_cons])
    simp only [List.cons_append, List.nil_append, hd_cons, tl_cons] at e r ⊢
    rw [show ((ks.length : Int) % 8).toNat = ks.length by omega, pairs_put ks ts ys hle] at e r
    rw [e, r, show 1 + (n - 1) % 5 = n by omega]
    exact ⟨rfl, rfl⟩
  · obtain rfl := notext (by decide)
    have hn : 1 ≤ n ∧ n ≤ 5 := by simpa [nodeOk] using hno
    have hnum : num = 0 := hnu.resolve_left (by decide)
    subst hnum
    rw [putOf_7]
    obtain ⟨e, r⟩ := act_k7 ([6] ++ [n - 1] ++ ([(ks.length : Int)] ++ pairBytes ks ts) ++ ys) (by simp [hd_cons])
    simp only [List.cons_append, List.nil_append, hd_cons, tl_cons] at e r ⊢
    rw [show ((ks.length : Int) % 8).toNat = ks.length by omega, pairs_put ks ts ys hle] at e r
    rw [e, r, show 1 + (n - 1) % 5 = n by omega]
    exact ⟨rfl, rfl⟩
  · obtain ⟨rfl, rfl⟩ := nocrash (by decide) (by decide)
    obtain rfl := notext (by decide)
    have hn : 1 ≤ n ∧ n ≤ 5 := by simpa [nodeOk] using hno
    have hnum : num = 0 := hnu.resolve_left (by decide)
    subst hnum
    rw [putOf_8]
    obtain ⟨e, r⟩ := act_k8 ([7] ++ [n - 1] ++ ys) (by simp [hd_cons])
    simp only [List.cons_append, List.nil_append, hd_cons, tl_cons] at e r ⊢
    rw [e, r, show 1 + (n - 1) % 5 = n by omega]
    exact ⟨rfl, rfl⟩
  · obtain ⟨rfl, rfl⟩ := nocrash (by decide) (by decide)
    obtain rfl := notext (by decide)
    have hn : n < 32 := by simpa [nodeOk] using hno
    rw [putOf_9]
    obtain ⟨e, r⟩ := act_k9 ([8] ++ [n] ++ [num] ++ ys) (by simp [hd_cons])
    simp only [List.cons_append, List.nil_append, hd_cons, tl_cons] at e r ⊢
    rw [e, r, show n % 32 = n by omega]
    exact ⟨rfl, rfl⟩
theorem back (a : S26) (ys : List Int) (h : plainA a = true) (hok : okA a) : actOf (putA a ++ ys) = a ∧ actRest (putA a ++ ys) = ys := back_fields a.f0 a.f1 a.f2 a.f3 a.f4.f0 a.f4.f1 ys h hok.2.1
theorem put_ne (a : S26) (ys : List Int) : putA a ++ ys ≠ [] := by
  unfold putA putOf
  simp
theorem dec_succ (n : Nat) (xs : List Int) : dec (n + 1) xs = if xs = [] then [] else actOf xs :: dec n (actRest xs) := rfl
theorem dec_puts : ∀ (l : List S26) (n : Nat) (ys : List Int), l.all plainA = true → (∀ a ∈ l, okA a) → l.length ≤ n → dec n (putsA l ++ ys) = l ++ dec (n - l.length) ys
  | [], n, ys, _, _, _ => by simp [putsA]
  | a :: l, 0, ys, _, _, h => by simp at h
  | a :: l, n + 1, ys, hp, hok, h => by
    rw [List.all_cons, Bool.and_eq_true] at hp
    have ih := dec_puts l n ys hp.2 (fun b hb => hok b (List.mem_cons_of_mem _ hb)) (by simpa using h)
    have hb := back a (putsA l ++ ys) hp.1 (hok a (List.mem_cons_self))
    have e : putsA (a :: l) ++ ys = putA a ++ (putsA l ++ ys) := by simp [putsA]
    rw [e, dec_succ, if_neg (put_ne a _), hb.1, hb.2, ih]
    simp
theorem dec_enc (l : List S26) (hp : l.all plainA = true) (hok : ∀ a ∈ l, okA a) (h : l.length ≤ 400) : dec 400 (putsA l) = l := by
  have := dec_puts l 400 [] hp hok h
  rw [List.append_nil, dec_nil, List.append_nil] at this
  exact this

end Go.Proofs.YtahfcdlggaoakaaDoor.Rd

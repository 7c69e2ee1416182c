/- A region that draws its order and whose operations each make one value, with new memory or none, out of values of the same region: whatever order is drawn, every operation's value has its property at the end. Conditions: no guards; each property stands when memory grows. -/
import Derived.Test.YtahfcdlggaoakaaDoorRd
namespace Go.Proofs.YtahfcdlggaoakaaDoor.Rd
open Go.RowKit Go.Proofs.YtahfcdlggaoakaaDoorW.PrintWords Go.Proofs.YtahfcdlggaoakaaDoorW.PrintLast Go.Proofs.YtahfcdlggaoakaaDoorW.PrintMore

section
variable {P : Program} {ops : Array Oper} {Q : Exit → Act → World → Prop} {a0 : Act} {z : World} {sl : List Nat} {Pr : Nat → Value → World → Prop} {T : Bool × List (List Nat × List Nat)}

/-- What is known when the operations of l have come up. -/
structure GInv (a0 : Act) (z : World) (sl : List Nat) (Pr : Nat → Value → World → Prop) (l : Array Bool) (a : Act) (w : World) : Prop where
  len : l.size = sl.length
  df : a.defers = a0.defers
  sz : a.tmps.size = a0.tmps.size
  other : ∀ t, t ∉ sl → a.tmps.getD t undef = a0.tmps.getD t undef
  val : ∀ i, i < sl.length → l.getD i false = true → Pr i (a.tmps.getD (sl.getD i 0) undef) w
  fr : Below z.heap.size z w

theorem getD_set (xs : Array Value) (t u : Nat) (v : Value) : (xs.setIfInBounds t v).getD u undef = if t = u ∧ t < xs.size then v else xs.getD u undef := by
  simp only [Array.getD_eq_getD_getElem?, Array.getElem?_setIfInBounds]
  by_cases h : t = u
  · subst h
    by_cases h2 : t < xs.size
    · simp [h2]
    · simp [h2]
  · simp [h]
theorem getDb_set (xs : Array Bool) (t u : Nat) (v : Bool) (h : t < xs.size) : (xs.setIfInBounds t v).getD u false = if t = u then v else xs.getD u false := by
  simp only [Array.getD_eq_getD_getElem?, Array.getElem?_setIfInBounds]
  by_cases e : t = u
  · subst e; simp [h]
  · simp [e]

theorem ready_mem (hT : rtab .any ops = T) {l : Array Bool} {i : Nat} (hi : i < T.2.length) (hl : l.getD i true = false) (hn : ∀ j ∈ (T.2.getD i ([], [])).1, l.getD j false = true) : i ∈ Region.ready .any ops l := by
  rw [ready_eq, hT]
  unfold readyT
  rw [List.mem_filter]
  refine ⟨List.mem_range.2 hi, ?_⟩
  unfold readyAt
  have h1 : l.toList.getD i true = false := by rw [← gd]; exact hl
  rw [h1]
  rw [List.getD_eq_getElem?_getD, List.getElem?_eq_getElem hi] at hn
  rw [List.getElem?_eq_getElem hi]
  simp only [Bool.not_false, Bool.true_and, List.all_eq_true]
  intro j hj
  rw [← gd]
  exact hn j hj
theorem ready_need (hT : rtab .any ops = T) {l : Array Bool} {i : Nat} (h : i ∈ Region.ready .any ops l) : i < T.2.length ∧ l.getD i true = false ∧ ∀ j ∈ (T.2.getD i ([], [])).1, l.getD j false = true := by
  rw [ready_eq, hT] at h
  unfold readyT at h
  rw [List.mem_filter] at h
  obtain ⟨h1, h2⟩ := h
  have hi := List.mem_range.1 h1
  unfold readyAt at h2
  rw [List.getElem?_eq_getElem hi] at h2
  simp only [Bool.and_eq_true, Bool.not_eq_true', List.all_eq_true] at h2
  refine ⟨hi, by rw [gd]; exact h2.1, fun j hj => ?_⟩
  rw [List.getD_eq_getElem?_getD, List.getElem?_eq_getElem hi] at hj
  rw [gd]
  exact h2.2 j hj

theorem all_done (hT : rtab .any ops = T) (hlow : ∀ i, i < T.2.length → ∀ j ∈ (T.2.getD i ([], [])).1, j < i) {l : Array Bool} (hl : l.size = T.2.length) (hr : Region.ready .any ops l = []) : ∀ i, i < T.2.length → l.getD i false = true := by
  intro i
  induction i using Nat.strongRecOn with
  | _ i ih =>
    intro hi
    cases h : l.getD i false with
    | true => rfl
    | false =>
      have h' : l.getD i true = false := by
        have hs : i < l.size := by omega
        simp only [Array.getD_eq_getD_getElem?, Array.getElem?_eq_getElem hs, Option.getD_some] at h ⊢
        exact h
      have := ready_mem hT hi h' (fun j hj => ih j (hlow i hi j hj) (by have := hlow i hi j hj; omega))
      rw [hr] at this
      exact absurd this (by simp)

theorem filter_le {l : List Nat} {p q : Nat → Bool} (h : ∀ x ∈ l, q x = true → p x = true) : (l.filter q).length ≤ (l.filter p).length := by
  induction l with
  | nil => exact Nat.le_refl _
  | cons x l ih =>
    have ih := ih (fun y hy => h y (List.mem_cons_of_mem _ hy))
    have hx := h x List.mem_cons_self
    simp only [List.filter_cons]
    cases hq : q x
    · cases hp : p x
      · simpa using ih
      · simp; omega
    · rw [hx hq]; simpa using ih
theorem filter_lt {l : List Nat} {p q : Nat → Bool} (h : ∀ x ∈ l, q x = true → p x = true) {i : Nat} (hi : i ∈ l) (hp : p i = true) (hq : q i = false) : (l.filter q).length < (l.filter p).length := by
  induction l with
  | nil => simp at hi
  | cons x l ih =>
    have h' : ∀ y ∈ l, q y = true → p y = true := fun y hy => h y (List.mem_cons_of_mem _ hy)
    have hx := h x List.mem_cons_self
    have hle := filter_le h'
    simp only [List.filter_cons]
    rcases List.mem_cons.1 hi with rfl | hi
    · rw [hp, hq]; simp; omega
    · have ih := ih h' hi
      cases hq2 : q x
      · cases hp2 : p x
        · simpa using ih
        · simp; omega
      · rw [hx hq2]; simpa using ih
theorem any_grow (hT : rtab .any ops = T) (hlow : ∀ i, i < T.2.length → ∀ j ∈ (T.2.getD i ([], [])).1, j < i) (hn : T.2.length = sl.length) (hsz : ∀ t ∈ sl, t < a0.tmps.size) (hnd : sl.Nodup)
    (hop : ∀ i, i < sl.length → ∃ o, ops[i]? = some o ∧ o.dst = some (sl.getD i 0) ∧ o.guard = none)
    (stable : ∀ i v w w', Pr i v w → Below w.heap.size w w' → Pr i v w')
    (step : ∀ (i : Nat) (o : Oper) (a : Act) (w : World), ops[i]? = some o → i < sl.length → (∀ j ∈ (T.2.getD i ([], [])).1, Pr j (a.tmps.getD (sl.getD j 0) undef) w) → Below z.heap.size z w → ∃ v w', (execOp a.eval o).run P w = .ok (.value v) w' ∧ Below w.heap.size w w' ∧ Pr i v w')
    (fin : ∀ (a : Act) (w : World), a.defers = a0.defers → a.tmps.size = a0.tmps.size → (∀ t, t ∉ sl → a.tmps.getD t undef = a0.tmps.getD t undef) → (∀ i, i < sl.length → Pr i (a.tmps.getD (sl.getD i 0) undef) w) → Below z.heap.size z w → Q .normal a w) :
    ∀ (fuel : Nat) (l : Array Bool) (a : Act) (w : World), GInv a0 z sl Pr l a w → ((List.range sl.length).filter fun i => !l.getD i false).length ≤ fuel → wpAny P .any ops Q fuel l a w := by
  intro fuel
  induction fuel with
  | zero =>
    intro l a w h hf
    have hd : ∀ i, i < sl.length → l.getD i false = true := by
      intro i hi
      have h0 : ((List.range sl.length).filter fun i => !l.getD i false) = [] := List.eq_nil_of_length_eq_zero (by omega)
      have := List.filter_eq_nil_iff.1 h0 i (List.mem_range.2 hi)
      simpa using this
    refine ⟨?_, fin a w h.df h.sz h.other (fun i hi => h.val i hi (hd i hi)) h.fr⟩
    cases hr : Region.ready .any ops l with
    | nil => rfl
    | cons i r =>
      have := ready_need hT (i := i) (l := l) (by rw [hr]; exact List.mem_cons_self)
      have h1 := hd i (by omega)
      have hs : i < l.size := by rw [h.len]; omega
      have h2 := this.2.1
      simp only [Array.getD_eq_getD_getElem?, Array.getElem?_eq_getElem hs, Option.getD_some] at h1 h2
      rw [h1] at h2
      cases h2
  | succ fuel ih =>
    intro l a w h hf
    refine ⟨fun hr => ?_, fun i hi => ?_⟩
    · have hd := all_done hT hlow (by rw [h.len, hn]) hr
      exact fin a w h.df h.sz h.other (fun i hi => h.val i hi (hd i (by omega))) h.fr
    · obtain ⟨hi1, hi2, hi3⟩ := ready_need hT hi
      have hi' : i < sl.length := by omega
      obtain ⟨o, ho, hd, hg⟩ := hop i hi'
      obtain ⟨v, w', hrun, hb, hp⟩ := step i o a w ho hi' (fun j hj => h.val j (by have := hlow i hi1 j hj; omega) (hi3 j hj)) h.fr
      unfold wpOp
      rw [ho]
      have hw : Region.wanted o (yielded ops a.tmps) = true := by simp [Region.wanted, hg]
      simp only [hw, if_true]
      left
      unfold Oper.wp
      rw [hrun, Oper.upon_value, hd]
      have hs : i < l.size := by rw [h.len]; omega
      have hlf : l.getD i false = false := by
        simp only [Array.getD_eq_getD_getElem?, Array.getElem?_eq_getElem hs, Option.getD_some] at hi2 ⊢
        exact hi2
      have hmem : sl.getD i 0 ∈ sl := by rw [List.getD_eq_getElem?_getD, List.getElem?_eq_getElem hi']; exact List.getElem_mem hi'
      have hslt : sl.getD i 0 < a.tmps.size := by rw [h.sz]; exact hsz _ hmem
      refine ih _ _ _ ⟨by rw [Array.size_setIfInBounds]; exact h.len, h.df, by simp only [Act.put, Array.size_setIfInBounds]; exact h.sz, ?_, ?_, below_then h.fr h.fr.size hb⟩ ?_
      · intro t ht
        simp only [Act.put]
        rw [getD_set, if_neg (fun e : sl.getD i 0 = t ∧ sl.getD i 0 < a.tmps.size => ht (by rw [← e.1]; exact hmem))]
        exact h.other t ht
      · intro j hj hlj
        simp only [Act.put]
        rw [getDb_set _ _ _ _ hs] at hlj
        rw [getD_set]
        by_cases e : i = j
        · subst e
          rw [if_pos ⟨rfl, hslt⟩]
          exact hp
        · rw [if_neg e] at hlj
          rw [if_neg]
          · exact stable _ _ _ _ (h.val j hj hlj) hb
          · rintro ⟨e2, _⟩
            rw [List.getD_eq_getElem?_getD, List.getD_eq_getElem?_getD, List.getElem?_eq_getElem hi', List.getElem?_eq_getElem hj] at e2
            exact e ((List.getElem_inj hnd).1 e2)
      · have hc : ((List.range sl.length).filter fun j => !(l.setIfInBounds i true).getD j false).length < ((List.range sl.length).filter fun j => !l.getD j false).length := by
          refine filter_lt (fun x _ hx => ?_) (List.mem_range.2 hi') (by simp [hlf]) (by rw [getDb_set _ _ _ _ hs, if_pos rfl]; rfl)
          rw [getDb_set _ _ _ _ hs] at hx
          split at hx
          · simp at hx
          · exact hx
        omega

theorem wp_grow {id : Nat} (hm : P.follows .mixedOrders = true) (hT : rtab .any ops = T) (hlow : ∀ i, i < T.2.length → ∀ j ∈ (T.2.getD i ([], [])).1, j < i) (hn : T.2.length = sl.length) (hsz : ∀ t ∈ sl, t < a0.tmps.size) (hnd : sl.Nodup)
    (hop : ∀ i, i < sl.length → ∃ o, ops[i]? = some o ∧ o.dst = some (sl.getD i 0) ∧ o.guard = none)
    (stable : ∀ i v w w', Pr i v w → Below w.heap.size w w' → Pr i v w')
    (step : ∀ (i : Nat) (o : Oper) (a : Act) (w : World), ops[i]? = some o → i < sl.length → (∀ j ∈ (T.2.getD i ([], [])).1, Pr j (a.tmps.getD (sl.getD j 0) undef) w) → Below z.heap.size z w → ∃ v w', (execOp a.eval o).run P w = .ok (.value v) w' ∧ Below w.heap.size w w' ∧ Pr i v w')
    (fin : ∀ (a : Act) (w : World), a.defers = a0.defers → a.tmps.size = a0.tmps.size → (∀ t, t ∉ sl → a.tmps.getD t undef = a0.tmps.getD t undef) → (∀ i, i < sl.length → Pr i (a.tmps.getD (sl.getD i 0) undef) w) → Below z.heap.size z w → Q .normal a w) :
    (Code.region id ops true).wp P Q a0 z := by
  refine wp_region_any hm ?_
  have hos : ops.size = sl.length := by rw [← hn, ← hT]; simp [rtab]
  have hI : GInv a0 z sl Pr (Array.replicate ops.size false) a0 z.drew := ⟨by simp [hos], rfl, rfl, fun _ _ => rfl, fun i _ hi => by
    exfalso
    simp only [Array.getD_eq_getD_getElem?, Array.getElem?_replicate] at hi
    split at hi <;> simp at hi, below_drew (Below.refl _ _)⟩
  refine any_grow (z := z) (a0 := a0) hT hlow hn hsz hnd hop stable step fin _ _ _ _ hI ?_
  rw [hos]
  exact Nat.le_trans (List.length_filter_le _ _) (by simp)
#print axioms wp_grow
end
end Go.Proofs.YtahfcdlggaoakaaDoor.Rd

/- ScriptBehind: its plain law, and the words for rows of acts that are appended. -/
import Derived.Test.YtahfcdlggaoakaaDoorKnownP
import Derived.Test.YtahfcdlggaoakaaDoorGreatW
import Derived.Test.YtahfcdlggaoakaaDoorAw
namespace Go.Proofs.YtahfcdlggaoakaaDoor.Rd
open Go.RowKit Go.Proofs.YtahfcdlggaoakaaDoorW.PrintWords Go.Proofs.YtahfcdlggaoakaaDoorW.PrintLast Go.Proofs.YtahfcdlggaoakaaDoorW.PrintMore
open Go.Proofs.YtahfcdlggaoakaaDoor.PScriptDecodes
set_option linter.unusedVariables false
set_option linter.unusedSimpArgs false

theorem dec_take : ∀ (n m : Nat) (xs : List Int), n ≤ m → dec n xs = (dec m xs).take n
  | 0, m, xs, _ => by simp [dec]
  | n + 1, 0, xs, h => by omega
  | n + 1, m + 1, xs, h => by
    rw [dec_succ, dec_succ]
    by_cases e : xs = []
    · rw [if_pos e, if_pos e]; rfl
    · rw [if_neg e, if_neg e, List.take_succ_cons, dec_take n m _ (by omega)]
theorem dec_behind (l : List S26) (ys : List Int) (hp : l.all plainA = true) (hok : ∀ a ∈ l, okA a) (h : l.length ≤ 400) : dec 400 (putsA l ++ ys) = (l ++ dec 400 ys).take 400 := by
  rw [dec_puts l 400 ys hp hok h, dec_take (400 - l.length) 400 ys (by omega), List.take_append, List.take_of_length_le h]
theorem enc_cases (l : List S26) : (400 < l.length ∧ enc l = ([], 3)) ∨ (l.length ≤ 400 ∧ l.all plainA = true ∧ enc l = (putsA l, 0)) ∨ (l.length ≤ 400 ∧ enc l = ([], 1)) := by
  unfold enc
  by_cases h : 400 < l.length
  · exact .inl ⟨h, by rw [if_pos h]⟩
  · by_cases hp : l.all plainA = true
    · exact .inr (.inl ⟨by omega, hp, by rw [if_neg h, if_pos hp]⟩)
    · exact .inr (.inr ⟨by omega, by rw [if_neg h, if_neg hp]⟩)

/-- An act's cells, whose numbers do not lie in block g. -/
def KN (g : Nat) (w : World) (s : S26) (cs : List Value) : Prop := ∃ A4 c4 A5 c5, cs = [.int .u8 s.f0, .int .u8 s.f1, .int .i64 s.f2, .string s.f3, .slice A4 s.f4.f0.length c4, .slice A5 s.f4.f1.length c5] ∧
  s.f4.f0.length ≤ c4 ∧ (Kd.int .i64).C w A4 s.f4.f0.length s.f4.f0 ∧ s.f4.f1.length ≤ c5 ∧ (Kd.int .i64).C w A5 s.f4.f1.length s.f4.f1 ∧
  (0 < s.f4.f0.length → ∀ ad, A4 = some ad → ad.block ≠ g) ∧ (0 < s.f4.f1.length → ∀ ad, A5 = some ad → ad.block ≠ g)
theorem KN.K {g : Nat} {w : World} {s : S26} {cs : List Value} (h : KN g w s cs) : k26.K w s cs := by
  obtain ⟨A4, c4, A5, c5, rfl, l4, g4, l5, g5, _, _⟩ := h
  exact k26_mk w s l4 g4 l5 g5
theorem C_grown {w w' : World} {g : Nat} {A : Option Addr} {n : Nat} {xs : List Int} (h : (Kd.int .i64).C w A n xs) (hg : w.grownBy w' (some g)) (hne : 0 < n → ∀ ad, A = some ad → ad.block ≠ g) : (Kd.int .i64).C w' A n xs := by
  have hr := Kd.reads_of_C (enc := Value.int .i64) (d := (0 : Int)) (h1 := fun _ => rfl) h
  refine Kd.C_of_reads (enc := Value.int .i64) (d := (0 : Int)) (h1 := fun _ => rfl) ⟨hr.1, hr.2.1, fun hn => ?_⟩
  obtain ⟨ad, e, hc⟩ := hr.2.2 hn
  refine ⟨ad, e, fun j hj => ?_⟩
  have h1 := hc j hj
  have hlt := World.block_lt_of_cell? w _ h1
  have hb : (ad.add j).block = ad.block := by simp [Addr.add]; split <;> rfl
  rw [← h1]
  exact World.cell?_of_block (hg.block _ hlt (by rw [hb]; intro e2; injection e2 with e2; exact hne hn ad e e2))
theorem KN.grown {g : Nat} {w w' : World} {s : S26} {cs : List Value} (h : KN g w s cs) (hg : w.grownBy w' (some g)) : KN g w' s cs := by
  obtain ⟨A4, c4, A5, c5, rfl, l4, g4, l5, g5, n4, n5⟩ := h
  exact ⟨A4, c4, A5, c5, rfl, l4, C_grown g4 hg n4, l5, C_grown g5 hg n5, n4, n5⟩
theorem KN.below {g : Nat} {w w' : World} {s : S26} {cs : List Value} (h : KN g w s cs) (hb : Below w.heap.size w w') : KN g w' s cs := by
  obtain ⟨A4, c4, A5, c5, rfl, l4, g4, l5, g5, n4, n5⟩ := h
  exact ⟨A4, c4, A5, c5, rfl, l4, Kd.C_below g4 hb, l5, Kd.C_below g5 hb, n4, n5⟩
/-- What is read in a world before block g came is not in it. -/
theorem KN.of {g : Nat} {w : World} {s : S26} {cs : List Value} (h : k26.K w s cs) (hg : w.heap.size ≤ g) : KN g w s cs := by
  obtain ⟨A4, c4, A5, c5, rfl, l4, g4, l5, g5⟩ := k26_open h
  have lt : ∀ {A : Option Addr} {n : Nat} {xs : List Int}, (Kd.int .i64).C w A n xs → 0 < n → ∀ ad, A = some ad → ad.block ≠ g := by
    intro A n xs h hn ad e
    have hr := Kd.reads_of_C (enc := Value.int .i64) (d := (0 : Int)) (h1 := fun _ => rfl) h
    obtain ⟨ad', e', hc⟩ := hr.2.2 hn
    rw [e] at e'
    injection e' with e'
    subst e'
    have h1 := World.block_lt_of_cell? w _ (hc 0 hn)
    have hb : (ad.add 0).block = ad.block := by simp [Addr.add]
    rw [hb] at h1
    omega
  exact ⟨A4, c4, A5, c5, rfl, l4, g4, l5, g5, lt g4, lt g5⟩

theorem rows_ind {R : S26 → List Value → Prop} (f : Nat → Option Value) : ∀ (l : List S26) (o : Nat), (∀ j p, l[j]? = some p → ∃ cs : List Value, cs.length = 6 ∧ R p cs ∧ ∀ i u, cs[i]? = some u → f (o + (j * 6 + i)) = some u) →
    ∃ rows : List (List Value), RowsOf R 6 rows l ∧ rows.flatten.length = l.length * 6 ∧ ∀ j u, rows.flatten[j]? = some u → f (o + j) = some u
  | [], o, _ => ⟨[], .nil, rfl, fun j u h => by simp at h⟩
  | p :: l, o, h => by
    obtain ⟨cs, hl, hp, hc⟩ := h 0 p rfl
    obtain ⟨rows, hr, hrl, hf⟩ := rows_ind f l (o + 6) (fun j q hq => by
      obtain ⟨cs', h1, h2, h3⟩ := h (j + 1) q (by simpa using hq)
      refine ⟨cs', h1, h2, fun i u hi => ?_⟩
      have := h3 i u hi
      rwa [show o + ((j + 1) * 6 + i) = o + 6 + (j * 6 + i) by omega] at this)
    refine ⟨cs :: rows, .cons ⟨hl, hp⟩ hr, by simp [hrl, hl]; omega, fun j u hj => ?_⟩
    rw [List.flatten_cons] at hj
    rcases Nat.lt_or_ge j 6 with h6 | h6
    · rw [List.getElem?_append_left (by omega)] at hj
      have := hc j u hj
      simpa using this
    · rw [List.getElem?_append_right (by omega), hl] at hj
      have := hf (j - 6) u hj
      rwa [show o + 6 + (j - 6) = o + j by omega] at this
/-- The rows of a slice of acts that is read. -/
theorem rows_of {R : S26 → List Value → Prop} {w : World} {A : Option Addr} {n : Nat} {l : List S26} (h : Kd.C k26 w A n l) (hR : ∀ s cs, k26.K w s cs → R s cs) :
    ∃ rows : List (List Value), RowsOf R 6 rows l ∧ rows.flatten.length = n * 6 ∧ ∀ ad, A = some ad → 0 < n → ∀ j u, rows.flatten[j]? = some u → w.cell? (ad.add j) = some u := by
  obtain ⟨hl, _, h⟩ := h
  rcases Nat.eq_zero_or_pos n with h0 | h0
  · subst h0
    have : l = [] := List.eq_nil_of_length_eq_zero hl
    subst this
    exact ⟨[], .nil, rfl, fun _ _ h => absurd h (Nat.lt_irrefl 0)⟩
  · obtain ⟨ad, rfl, hc⟩ := h h0
    obtain ⟨rows, h1, h2, h3⟩ := rows_ind (R := R) (fun j => w.cell? (ad.add j)) l 0 (fun j p hp => by
      obtain ⟨cs, hcl, hk, hcell⟩ := hc j p hp
      exact ⟨cs, hcl, hR p cs hk, fun i u hi => by rw [Nat.zero_add]; exact hcell i u hi⟩)
    refine ⟨rows, h1, by rw [h2, hl], fun ad' e _ j u hj => ?_⟩
    injection e with e
    subst e
    have := h3 j u hj
    rwa [Nat.zero_add] at this
theorem RowsOf.imp {R R' : S26 → List Value → Prop} {sz : Nat} {rows : List (List Value)} {l : List S26} (h : RowsOf R sz rows l) (hR : ∀ s cs, R s cs → R' s cs) : RowsOf R' sz rows l := by
  induction h with
  | nil => exact .nil
  | cons h t ih => exact .cons ⟨h.1, hR _ _ h.2⟩ ih
theorem RowsOf.append {R : S26 → List Value → Prop} {sz : Nat} {rows rows' : List (List Value)} {l l' : List S26} (h : RowsOf R sz rows l) (h' : RowsOf R sz rows' l') : RowsOf R sz (rows ++ rows') (l ++ l') := by
  induction h with
  | nil => exact h'
  | cons h t ih => exact .cons h ih
theorem RowsOf.len {R : S26 → List Value → Prop} {sz : Nat} {rows : List (List Value)} {l : List S26} (h : RowsOf R sz rows l) : rows.flatten.length = l.length * sz := by
  induction h with
  | nil => simp
  | cons h t ih => simp [ih, h.1, Nat.add_mul]; omega
/-- An owned row of acts is read. -/
theorem own_acts {w : World} {base n : Nat} {v : Value} {rows : List (List Value)} {l : List S26} (h : w.ownsRow base 26 6 v n rows.flatten) (hr : RowsOf (k26.K w) 6 rows l) (hn : l.length = n) (hm : n ≤ 9223372036854775807) :
    ∃ A c, v = .slice A n c ∧ n ≤ c ∧ Kd.C k26 w A n l := by
  rcases h.2 with ⟨rfl, h0⟩ | ⟨g, cap, cur, rfl, hb, hg, hc, hcm, hs, ht⟩
  · subst h0
    have : l = [] := List.eq_nil_of_length_eq_zero hn
    subst this
    exact ⟨none, 0, rfl, Nat.le_refl _, rfl, by decide, fun h => absurd h (Nat.lt_irrefl 0)⟩
  · refine ⟨_, cap, rfl, hc, hn, hm, fun _ => ⟨_, rfl, fun j p hj => ?_⟩⟩
    obtain ⟨c, h1, h2, h3⟩ := hr.get j p hj
    refine ⟨c, h1, h2, fun i u hi => ?_⟩
    have e6 : k26.sz = 6 := rfl
    rw [e6, add_plain, cell_of_row w g _ _ _ _ hg]
    have := h3 i u hi
    rw [← ht, List.getElem?_take] at this
    split at this
    · simpa using this
    · cases this
theorem KN.ne {g : Nat} {w : World} {s : S26} {cs : List Value} (h : KN g w s cs) {w' : World} {g' : Nat} (hC : KN g w' s cs) (hg : w.heap.size ≤ g') : KN g' w' s cs := by
  obtain ⟨A4, c4, A5, c5, e, l4, g4, l5, g5, _, _⟩ := hC
  obtain ⟨B4, d4, B5, d5, e', _, _, _, _, m4, m5⟩ := KN.of h.K hg
  rw [e] at e'
  simp only [List.cons.injEq, Value.slice.injEq, and_true, true_and] at e'
  obtain ⟨⟨rfl, _⟩, rfl, _⟩ := e'
  exact ⟨A4, c4, A5, c5, e, l4, g4, l5, g5, m4, m5⟩
theorem RowsOf.two {R R' R'' : S26 → List Value → Prop} {sz : Nat} {rows : List (List Value)} {l : List S26} (h : RowsOf R sz rows l) (hR : ∀ s cs, R s cs → R' s cs → R'' s cs) (h' : RowsOf R' sz rows l) : RowsOf R'' sz rows l := by
  induction h with
  | nil => exact .nil
  | cons h t ih =>
    cases h' with
    | cons h2 t2 => exact .cons ⟨h.1, hR _ _ h.2 h2.2⟩ (ih t2)
theorem KN.one {g : Nat} {w : World} {s : S26} {cs : List Value} (h : KN g w s cs) : ∀ u ∈ cs, u.oneCell' = true := by
  obtain ⟨A4, c4, A5, c5, rfl, _⟩ := h
  intro u hu
  simp only [List.mem_cons, List.not_mem_nil, or_false] at hu
  rcases hu with rfl | rfl | rfl | rfl | rfl | rfl <;> rfl
theorem RowsOf.one {g : Nat} {w : World} {rows : List (List Value)} {l : List S26} (h : RowsOf (KN g w) 6 rows l) : ∀ u ∈ rows.flatten, u.oneCell' = true := by
  induction h with
  | nil => intro u hu; simp at hu
  | cons h t ih =>
    intro u hu
    rw [List.flatten_cons, List.mem_append] at hu
    rcases hu with hu | hu
    · exact h.2.one u hu
    · exact ih u hu
/-- append of acts that are read to a row of one's own. -/
theorem append_acts {W : World} (base n m c g : Nat) (ty : TypeId) (v : Value) (A : Option Addr) (rows rows2 : List (List Value)) (l l2 : List S26) (hown : W.ownsRow base 26 6 v n rows.flatten) (hn : l.length = n)
    (hr : RowsOf (KN g W) 6 rows l) (hg : v.ownBlock = some g) (hr2 : RowsOf (KN g W) 6 rows2 l2) (hm : l2.length = m) (hA0 : A = none → m = 0) (hcell : ∀ ad, A = some ad → 0 < m → ∀ j u, rows2.flatten[j]? = some u → W.cell? (ad.add j) = some u)
    (hbase : base ≤ W.heap.size) (hnm : n + m ≤ 100000) :
    ∃ v' w' rows' g', (Builtin.append_ #[27, 27] ty #[v, .slice A m c]).run Tryd.prog W = .ok v' w' ∧ w'.ownsRow base 26 6 v' (n + m) rows'.flatten ∧ RowsOf (KN g' w') 6 rows' (l ++ l2) ∧ W.grownBy w' (some g) ∧ v'.ownBlock = some g' ∧ (g' = g ∨ W.heap.size ≤ g') := by
  obtain ⟨i26, hi, hz0, hz1, hz2⟩ := info_parts info26
  cases A with
  | none =>
    obtain rfl := hA0 rfl
    have : l2 = [] := List.eq_nil_of_length_eq_zero hm
    subst this
    obtain ⟨B, k, e⟩ : ∃ B k, v = .slice B n k ∧ n ≤ k := by
      rcases hown.2 with ⟨rfl, rfl⟩ | ⟨g', cap, cur, rfl, _, _, hc, _⟩
      · exact ⟨_, _, rfl, Nat.le_refl _⟩
      · exact ⟨_, _, rfl, hc⟩
    obtain ⟨rfl, hk⟩ := e
    have hrun := run_append_nothing (P := Tryd.prog) W 27 27 ty 26 i26 Tryd.underlying27 hi B n k hk (.slice none 0 c) (Src.ofNil _ Tryd.underlying27 c)
    exact ⟨_, W, rows, g, hrun, hown, by rw [List.append_nil]; exact hr, ⟨rfl, rfl, rfl, Nat.le_refl _, fun _ _ _ => rfl⟩, hg, .inl rfl⟩
  | some ad =>
    have hlen2 : rows2.flatten.length = m * 6 := by rw [hr2.len, hm]
    have hnews : ∀ j u, rows2.flatten[j]? = some u → W.cell? (ad.add j) = some u := by
      intro j u hj
      refine hcell ad rfl ?_ j u hj
      rcases Nat.eq_zero_or_pos m with h0 | h0
      · rw [List.getElem?_eq_none (by omega)] at hj; cases hj
      · exact h0
    obtain ⟨v', w', hrun, ho1, hg1, _, hat⟩ := run_append_own_at (P := Tryd.prog) W base 27 ty 26 i26 _ 6 80 Tryd.underlying27 hi hz0 hz1 hz2 rfl (by decide) v n rows.flatten hown ad m c rows2.flatten hlen2 hnews hr2.one (by simp only [maxLen]; omega) (by omega) hbase
    rw [hg] at hg1 hat
    have hall := hr.append hr2
    have hgr : RowsOf (KN g w') 6 (rows ++ rows2) (l ++ l2) := hall.imp fun s cs h => h.grown hg1
    rw [← List.flatten_append] at ho1
    rcases hat with hat | hat
    · exact ⟨v', w', rows ++ rows2, g, hrun, ho1, hgr, hg1, hat, .inl rfl⟩
    · exact ⟨v', w', rows ++ rows2, W.heap.size, hrun, ho1, hall.two (fun s cs h h' => h.ne h' (Nat.le_refl _)) hgr, hg1, hat, .inr (Nat.le_refl _)⟩
section
variable {ops : Array Oper} {rest : List Oper} {o : Oper} {a : Act} {Q : Exit → Act → World → Prop}
theorem wp_append_acts {W w0 : World} (base n m c g : Nat) (v : Value) (A : Option Addr) (rows rows2 : List (List Value)) (l l2 : List S26) (hgd : o.guard = none) (s x : Operand) (ho : o.op = .call { callee := .builtin .append, args := #[s, x], argTypes := #[27, 27] })
    (hv : a.eval s = v) (hx : a.eval x = .slice A m c) (hown : W.ownsRow base 26 6 v n rows.flatten) (hn : l.length = n)
    (hr : RowsOf (KN g W) 6 rows l) (hg : v.ownBlock = some g) (hr2 : RowsOf (KN g W) 6 rows2 l2) (hm : l2.length = m) (hA0 : A = none → m = 0) (hcell : ∀ ad, A = some ad → 0 < m → ∀ j u, rows2.flatten[j]? = some u → W.cell? (ad.add j) = some u)
    (hnm : n + m ≤ 100000) (B : Nat) (hB : Below B w0 W) (hBg : B ≤ g) (hBs : B ≤ W.heap.size) (hbase : base ≤ W.heap.size)
    (hK : ∀ v' w' rows' g', w'.ownsRow base 26 6 v' (n + m) rows'.flatten → RowsOf (KN g' w') 6 rows' (l ++ l2) → W.grownBy w' (some g) → v'.ownBlock = some g' → (g' = g ∨ W.heap.size ≤ g') → Below B w0 w' → wpList Tryd.prog ops Q rest (a.put o.dst v') w') : wpList Tryd.prog ops Q (o :: rest) a W := by
  refine wpList_plain hgd fun K hK' => ?_
  obtain ⟨v', w', rows', g', hrun, h1, h2, h3, h4, h5⟩ := append_acts base n m c g o.type v A rows rows2 l l2 hown hn hr hg hr2 hm hA0 hcell hbase hnm
  unfold Oper.wp
  simp [execOp, ho, resolve, invoke, builtin, hv, hx, hrun, Result.andThen]
  exact hK' _ _ (hK v' w' rows' g' h1 h2 h3 h4 h5 (hB.grown h3 hBs (fun k hk => by injection hk with hk; subst hk; exact hBg)))
end
/-- A slice literal without elements. -/
theorem run_bs0 (W : World) (t e : TypeId) (i : TypeInfo) (hu : Tryd.prog.underlying t = some (.slice e)) (hi : Tryd.prog.info? e = some i) :
    (Instr.buildSlice t 0 #[]).run Tryd.prog W = .ok (.slice (some ⟨W.heap.size, 0, none⟩) 0 0) (W.alloc (.cells #[] e)) := by
  simp [Instr.buildSlice, run_underlying hu, sizeOf, typeInfo, hi, newRow, Instr.fill, Array.range_zero']
theorem KN_of_M {g base : Nat} {w : World} {ok : Nat → Prop} {s : S26} {cs : List Value} (h : k26.M w base ok s cs) (hg : g < base) : KN g w s cs := by
  obtain ⟨v4, v5, rfl, r4, r5⟩ := k26_openM h
  obtain ⟨A4, c4, rfl, l4, g4⟩ := Kd.R_reads r4
  obtain ⟨A5, c5, rfl, l5, g5⟩ := Kd.R_reads r5
  obtain ⟨_, i4, o4, _⟩ := r4
  obtain ⟨_, i5, o5, _⟩ := r5
  refine ⟨A4, c4, A5, c5, rfl, l4, g4, l5, g5, fun _ ad e => ?_, fun _ ad e => ?_⟩
  · subst e
    have := own_base o4 ad.block rfl
    omega
  · subst e
    have := own_base o5 ad.block rfl
    omega
/-- The rows of a decoded list. -/
theorem rows_RA {w : World} {base g : Nat} {v : Value} {l : List S26} (h : RA w base v l) (hg : g < base) :
    ∃ A c rows, v = .slice A l.length c ∧ RowsOf (KN g w) 6 rows l ∧ (A = none → l.length = 0) ∧ ∀ ad, A = some ad → 0 < l.length → ∀ j u, rows.flatten[j]? = some u → w.cell? (ad.add j) = some u := by
  obtain ⟨_, inner, hown, hreps⟩ := h
  obtain ⟨rows, h1, h2, h3⟩ := rows_ind (R := KN g w) (fun j => inner[j]?) l 0 (fun j p hp => by
    have hM := hreps.2 j p hp
    have e6 : k26.sz = 6 := rfl
    rw [e6] at hM
    have hlen : inner.length = l.length * 6 := hreps.1
    have hjl : j < l.length := by
      rcases Nat.lt_or_ge j l.length with h | h
      · exact h
      · rw [List.getElem?_eq_none h] at hp; cases hp
    refine ⟨_, by rw [List.length_take, List.length_drop]; omega, KN_of_M hM hg, fun i u hi => ?_⟩
    rw [List.getElem?_take] at hi
    split at hi
    · rw [List.getElem?_drop] at hi
      rwa [Nat.zero_add]
    · cases hi)
  rcases hown.2 with ⟨rfl, h0⟩ | ⟨g', cap, cur, rfl, _, hgg, hc, hcm, hs, ht⟩
  · refine ⟨none, 0, rows, by rw [h0], h1, fun _ => h0, (fun ad e => by cases e)⟩
  · refine ⟨_, cap, rows, rfl, h1, (fun e => by cases e), fun ad e _ j u hj => ?_⟩
    injection e with e
    subst e
    rw [add_plain, cell_of_row w g' j _ _ _ hgg]
    have h4 := h3 j u hj
    rw [Nat.zero_add, ← ht, List.getElem?_take] at h4
    split at h4
    · simpa using h4
    · cases h4
theorem C_take {w : World} {A : Option Addr} {n k : Nat} {l : List S26} (h : Kd.C k26 w A n l) (hk : k ≤ n) : Kd.C k26 w A k (l.take k) := by
  obtain ⟨hl, hm, h⟩ := h
  refine ⟨by rw [List.length_take]; omega, by omega, fun hn => ?_⟩
  obtain ⟨ad, e, hc⟩ := h (by omega)
  refine ⟨ad, e, fun j p hj => hc j p ?_⟩
  rw [List.getElem?_take] at hj
  split at hj
  · exact hj
  · cases hj
theorem take_400 (A : Option Addr) (n c : Nat) (hc : 400 ≤ c) (W : World) :
    (Instr.slice 27 (.slice A n c) none (some (.int .i64 400)) none).run Tryd.prog W = .ok (.slice A 400 c) W := by
  obtain ⟨i26, hi, hz0, hz1, hz2⟩ := info_parts info26
  have hel : Tryd.prog.elem 27 = 26 := by simp [Program.elem, Tryd.underlying27]
  rw [run_slice_h W 27 A n c (by rw [hel]; exact Tryd.underlying27) .i64 400 (by omega) (by omega), hel]
  simp [sizeOf, typeInfo, hi, hz1, sliced, Result.andThen]
  intro _
  cases A <;> rfl
theorem C_none {w : World} {A : Option Addr} {n : Nat} {l : List S26} (h : Kd.C k26 w A n l) (e : A = none) : n = 0 := by
  rcases Nat.eq_zero_or_pos n with h0 | h0
  · exact h0
  · obtain ⟨ad, e', _⟩ := h.2.2 h0
    rw [e] at e'
    cases e'
theorem own_empty (w : World) (base : Nat) (hb : base ≤ w.heap.size) : (w.alloc (.cells #[] 26)).ownsRow base 26 6 (.slice (some ⟨w.heap.size, 0, none⟩) 0 0) 0 ([] : List (List Value)).flatten :=
  ⟨rfl, .inr ⟨w.heap.size, 0, #[], rfl, hb, blk_new w _, Nat.le_refl _, Nat.zero_le _, rfl, rfl⟩⟩
theorem own_keep {w w' : World} {base n size : Nat} {e : TypeId} {v : Value} {xs : List Value} (h : w.ownsRow base e size v n xs) (hb : Below w.heap.size w w') : w'.ownsRow base e size v n xs := by
  refine ⟨h.1, ?_⟩
  rcases h.2 with h0 | ⟨g, cap, cur, hv, hbg, hg, h1, h2, h3, h4⟩
  · exact .inl h0
  · exact .inr ⟨g, cap, cur, hv, hbg, by rw [hb.block g (blk_lt hg)]; exact hg, h1, h2, h3, h4⟩
theorem same_len (A B : Option Addr) (c d n : Nat) (l : List S26) (w : World) (hl : l.length = n) (h1 : Kd.C k26 w A n l) (h2 : Kd.C k26 w B n l) (hc : n ≤ c) (hd : n ≤ d) :
    Calls Tryd.prog 11 #[.slice A n c, .slice B n d] w fun e w' => e = .returned (.bool true) ∧ Below w.heap.size w w' := by
  subst hl
  exact same_any A B c d l w h1 h2 hc hd
end Go.Proofs.YtahfcdlggaoakaaDoor.Rd

/- The shape of decoded acts in memory, kept while the numbers of their crashes are written. -/
import Derived.Test.YtahfcdlggaoakaaDoorRefD
import Derived.Test.YtahfcdlggaoakaaDoorTotalW
namespace Go.Proofs.YtahfcdlggaoakaaDoor.Rd
open Go.RowKit Go.Proofs.YtahfcdlggaoakaaDoorW.PrintWords Go.Proofs.YtahfcdlggaoakaaDoorW.PrintLast Go.Proofs.YtahfcdlggaoakaaDoorW.PrintMore
open Go.Proofs.YtahfcdlggaoakaaDoor.PScriptDecodes
set_option linter.unusedVariables false
set_option linter.unusedSimpArgs false

/-- A row of k numbers, none of block hb. -/
structure IR (w : World) (base hb : Nat) (A : Option Addr) (k : Nat) : Prop where
  le : k ≤ 9223372036854775807
  row : k = 0 ∨ ∃ (g : Nat) (cells : Array Value), A = some ⟨g, 0, none⟩ ∧ base ≤ g ∧ g ≠ hb ∧ w.heap[g]? = some (.cells cells 3 (0, 0)) ∧ ∀ i, i < k → ∃ x : Int, cells[i]? = some (.int .i64 x)
/-- Block hb holds n acts; each act's Keep is a row of numbers. -/
structure Sh (w : World) (base hb : Nat) (hc : Array Value) (n : Nat) : Prop where
  blk : w.heap[hb]? = some (.cells hc 26 (0, 0))
  row : ∀ j, j < n → ∃ (A : Option Addr) (k c : Nat), hc[j * 6 + 4]? = some (.slice A k c) ∧ IR w base hb A k

theorem ir_of {w : World} {base hb : Nat} {ok : Nat → Prop} {v : Value} {xs : List Int} (h : RI w base ok v xs) (hok : ∀ k, ok k → k ≠ hb) : ∃ (A : Option Addr) (k c : Nat), v = .slice A k c ∧ IR w base hb A k := by
  obtain ⟨A0, c0, e0, hl0, hr0⟩ := Kd.R_reads h
  obtain ⟨h0, inner, hown, hreps⟩ := h
  rcases hown.2 with ⟨rfl, hn⟩ | ⟨g, cap, cur, rfl, hg, hb', hc, hm, hs, ht⟩
  · exact ⟨none, 0, 0, rfl, Nat.zero_le _, .inl rfl⟩
  · refine ⟨_, _, _, rfl, by unfold maxLen at hm; omega, .inr ⟨g, cur, rfl, hg, hok g (h0 g rfl), hb', fun i hi => ?_⟩⟩
    injection e0 with e1 _ _
    subst e1
    have hrd := (Kd.reads_of_C (enc := Value.int .i64) (d := (0 : Int)) (h1 := fun _ => rfl) hr0).2.2 (by omega)
    obtain ⟨ad, e, hcell⟩ := hrd
    injection e with e
    subst e
    have := hcell i hi
    rw [add_plain, cell_of_row w g i _ _ _ hb'] at this
    exact ⟨_, this⟩
theorem sh_of {w : World} {base : Nat} {v : Value} {l : List S26} (h : RA w base v l) :
    ∃ A c, v = .slice A l.length c ∧ l.length ≤ c ∧ Kd.C k26 w A l.length l ∧ (0 < l.length → ∃ hb hc, A = some ⟨hb, 0, none⟩ ∧ base ≤ hb ∧ Sh w base hb hc l.length) := by
  obtain ⟨A, c, e, hl, hr⟩ := Kd.R_reads h
  refine ⟨A, c, e, hl, hr, fun hn => ?_⟩
  obtain ⟨_, inner, hown, hreps⟩ := h
  rcases hown.2 with ⟨_, h0⟩ | ⟨g, cap, cur, he, hg, hb', hc, hm, hs, ht⟩
  · omega
  · rw [e] at he
    injection he with e1 _ _
    subst e1
    refine ⟨g, cur, rfl, hg, hb', fun j hj => ?_⟩
    have hM := hreps.2 j l[j] (List.getElem?_eq_getElem hj)
    obtain ⟨v4, v5, e5, r4, r5⟩ := k26_openM hM
    obtain ⟨A4, k4, c4, e4, hir⟩ := ir_of (hb := g) r4 (fun k hk => by
      intro hkg
      have := hk.2
      rw [e, hkg] at this
      exact this rfl)
    refine ⟨A4, k4, c4, ?_, hir⟩
    have e6 : k26.sz = 6 := rfl
    rw [e6] at e5 ht
    have h4 : ((inner.drop (j * 6)).take 6)[4]? = some v4 := by rw [e5]; rfl
    rw [List.getElem?_take, if_pos (by omega), List.getElem?_drop, ← ht, List.getElem?_take, if_pos (by omega)] at h4
    rw [← e4]
    simpa using h4
theorem IR.move {w w1 : World} {base hb : Nat} {A : Option Addr} {k : Nat} (h : IR w base hb A k) (hm : ∀ g, g < w.heap.size → w1.heap[g]? = w.heap[g]?) : IR w1 base hb A k := by
  refine ⟨h.le, ?_⟩
  rcases h.row with h0 | ⟨g, cells, rfl, hg, hne, hblk, hx⟩
  · exact .inl h0
  · exact .inr ⟨g, cells, rfl, hg, hne, (hm g (blk_lt hblk)).trans hblk, hx⟩
theorem Sh.move {w w1 : World} {base hb n : Nat} {hc : Array Value} (h : Sh w base hb hc n) (hm : ∀ g, g < w.heap.size → w1.heap[g]? = w.heap[g]?) : Sh w1 base hb hc n := by
  refine ⟨(hm hb (blk_lt h.blk)).trans h.blk, fun j hj => ?_⟩
  obtain ⟨A, k, c, e, hir⟩ := h.row j hj
  exact ⟨A, k, c, e, hir.move hm⟩
theorem Sh.put {w : World} {base hb n : Nat} {hc : Array Value} (h : Sh w base hb hc n) {g i : Nat} (hg : g ≠ hb) (x : Int) : Sh (w.setCell ⟨g, i, none⟩ (.int .i64 x)) base hb hc n := by
  refine ⟨(Below.heap_setCell w ⟨g, i, none⟩ _ hb (fun e => hg e.symm)).trans h.blk, fun j hj => ?_⟩
  obtain ⟨A, k, c, e, hir⟩ := h.row j hj
  refine ⟨A, k, c, e, hir.le, ?_⟩
  rcases hir.row with h0 | ⟨g', cells, rfl, hg', hne, hblk, hx⟩
  · exact .inl h0
  · by_cases hgg : g' = g
    · subst hgg
      refine .inr ⟨g', cells.setIfInBounds i (.int .i64 x), rfl, hg', hne, blk_put hblk i _ rfl, fun m hm => ?_⟩
      obtain ⟨y, hy⟩ := hx m hm
      rw [Array.getElem?_setIfInBounds]
      by_cases him : i = m
      · subst him
        have : i < cells.size := (Array.getElem?_eq_some_iff.1 hy).1
        simp [this]
      · rw [if_neg him]; exact ⟨y, hy⟩
    · exact .inr ⟨g', cells, rfl, hg', hne, (Below.heap_setCell w ⟨g, i, none⟩ _ g' hgg).trans hblk, hx⟩
theorem Sh.at_ {w : World} {base hb n : Nat} {hc : Array Value} (h : Sh w base hb hc n) {j : Nat} (hj : j < n) {A : Option Addr} {k c : Nat} (e : hc[j * 6 + 4]? = some (.slice A k c)) :
    w.cell? ⟨hb, j * 6 + 4, none⟩ = some (.slice A k c) ∧ IR w base hb A k := by
  obtain ⟨A', k', c', e', hir⟩ := h.row j hj
  rw [e] at e'
  injection e' with e'
  injection e' with e1 e2 e3
  subst e1 e2 e3
  exact ⟨by rw [blk_cell h.blk]; exact e, hir⟩
theorem IR.at_ {w : World} {base hb : Nat} {A : Option Addr} {k : Nat} (h : IR w base hb A k) {m : Nat} (hm : m < k) :
    ∃ (g : Nat) (x : Int), A = some ⟨g, 0, none⟩ ∧ base ≤ g ∧ g ≠ hb ∧ w.cell? ⟨g, m, none⟩ = some (.int .i64 x) ∧ w.frozen? ⟨g, m, none⟩ = false := by
  rcases h.row with h0 | ⟨g, cells, rfl, hg, hne, hblk, hx⟩
  · omega
  · obtain ⟨x, e⟩ := hx m hm
    exact ⟨g, x, rfl, hg, hne, by rw [blk_cell hblk]; exact e, blk_frozen hblk m⟩
end Go.Proofs.YtahfcdlggaoakaaDoor.Rd

/- A parameter that is a slice of acts, opened: the acts it reads as. -/
import Derived.Test.YtahfcdlggaoakaaDoorPlain
import Derived.Deep.Slices
import Derived.ChangeSlices
namespace Go.Proofs.YtahfcdlggaoakaaDoor.Rd
open Go.RowKit Go.Proofs.YtahfcdlggaoakaaDoorW.PrintWords Go.Proofs.YtahfcdlggaoakaaDoorW.PrintLast Go.Proofs.YtahfcdlggaoakaaDoorW.PrintMore
open Go.Proofs.YtahfcdlggaoakaaDoor.PScriptDecodes
set_option linter.unusedVariables false
set_option linter.unusedSimpArgs false
section
variable {H : Type} {enc : TypeId × Value → H} {W : World}
theorem u8_wf {x : Int} (h : (Lit.int .u8 x).wf = true) : 0 ≤ x ∧ x ≤ 255 := by
  simp only [Lit.wf, Bool.and_eq_true, decide_eq_true_eq] at h
  exact h
theorem cells26 : Tryd.prog.cellsOf 26 = 6 := by kernel_rfl
theorem cells24 : Tryd.prog.cellsOf 24 = 2 := by kernel_rfl
theorem cells22 : Tryd.prog.cellsOf 22 = 1 := by kernel_rfl
theorem cells3 : Tryd.prog.cellsOf 3 = 1 := by kernel_rfl
theorem cells5 : Tryd.prog.cellsOf 5 = 1 := by kernel_rfl
theorem cells9 : Tryd.prog.cellsOf 9 = 1 := by kernel_rfl

theorem trod_ints {n : Nat} {cs : List Value} {y : DataW H × List MemPlace} (h : DataW.trod enc Tryd.prog W 0 (fun _ => true) true n 22 cs = some y) :
    ∃ (A : Option Addr) (c : Nat) (xs : List Int), cs = [.slice A xs.length c] ∧ xs.length ≤ c ∧ (Kd.int .i64).C W A xs.length xs := by
  rcases ChangeShapes.open_ints Tryd.underlying22 Tryd.underlying3 cells3 h with ⟨rfl, _⟩ | ⟨a, len, cap, zs, rfl, _, hl, hm, hz, _, hc, _⟩
  · exact ⟨none, 0, [], rfl, Nat.le_refl _, ⟨rfl, by decide, fun h => absurd h (Nat.lt_irrefl 0)⟩⟩
  · simp only [if_true] at hz
    refine ⟨some a, cap, zs.take len, by rw [List.length_take, hz, Nat.min_eq_left hl], by rw [List.length_take]; omega, ?_⟩
    refine Kd.C_of_reads (enc := Value.int .i64) (d := (0 : Int)) (h1 := fun _ => rfl) ⟨rfl, by rw [List.length_take]; simp only [maxLen] at hm; omega, fun _ => ⟨a, rfl, fun j hj => ?_⟩⟩
    rw [List.length_take] at hj
    rw [hc j (by omega)]
    simp [List.getD_eq_getElem?_getD, List.getElem?_take, show j < len by omega]

theorem trod_act {n : Nat} {cs : List Value} {y : DataW H × List MemPlace} (h : DataW.trod enc Tryd.prog W 0 (fun _ => true) true n 26 cs = some y) : ∃ s : S26, okA s ∧ k26.K W s cs := by
  obtain ⟨xs, k, rfl, _, hcl, hxl, hf⟩ := DataW.trod_struct Tryd.underlying26 h
  rw [cells26] at hcl
  have hxl : xs.length = 5 := hxl
  match xs, hxl, cs, hcl with
  | [y0, y1, y2, y3, y4], _, [v0, v1, v2, v3, v4, v5], _ =>
    have g0 := hf 0 _ rfl
    have g1 := hf 1 _ rfl
    have g2 := hf 2 _ rfl
    have g3 := hf 3 _ rfl
    have g4 := hf 4 _ rfl
    simp [cells3, cells5, cells9, cells24] at g0 g1 g2 g3 g4
    obtain ⟨a0, e0, _, w0⟩ := DataW.trod_int Tryd.underlying5 g0
    obtain ⟨a1, e1, _, w1⟩ := DataW.trod_int Tryd.underlying5 g1
    obtain ⟨a2, e2, _, _⟩ := DataW.trod_int Tryd.underlying3 g2
    obtain ⟨t, e3, _, _⟩ := DataW.trod_string Tryd.underlying9 g3
    injection e0 with e0 _
    injection e1 with e1 _
    injection e2 with e2 _
    injection e3 with e3 _
    subst e0 e1 e2 e3
    obtain ⟨zs, k2, _, _, _, hzl, hg⟩ := DataW.trod_struct Tryd.underlying24 g4
    have hzl : zs.length = 2 := hzl
    match zs, hzl with
    | [z0, z1], _ =>
      have q0 := hg 0 _ rfl
      have q1 := hg 1 _ rfl
      simp [cells22] at q0 q1
      obtain ⟨A4, c4, ks, f4, l4, h4⟩ := trod_ints q0
      obtain ⟨A5, c5, ts, f5, l5, h5⟩ := trod_ints q1
      injection f4 with f4 _
      injection f5 with f5 _
      subst f4 f5
      exact ⟨⟨a0, a1, a2, t, ⟨ks, ts⟩⟩, ⟨u8_wf w0, u8_wf w1⟩, k26_mk W _ l4 h4 l5 h5⟩

theorem open_acts {A : Option Addr} {len cap : Nat} {d : DataW H} {p : List MemPlace} (h : DataW.Trod enc Tryd.prog W 0 (fun _ => true) true 27 (.slice A len cap) d p) :
    ∃ l : List S26, len = l.length ∧ l.length ≤ cap ∧ Kd.C k26 W A l.length l ∧ ∀ a ∈ l, okA a := by
  obtain ⟨fuel, h⟩ := h
  have h' : DataW.trod enc Tryd.prog W 0 (fun _ => true) true fuel 27 [.slice A len cap] = some (d, p) := h
  rcases Deep.open_slice Tryd.underlying27 h' with ⟨e, _⟩ | ⟨a, len', cap', m, n, D, Pl, e, _, hl, hm, hmm, _, hx⟩
  · injection e with e _
    injection e with e1 e2 e3
    subst e1 e2 e3
    exact ⟨[], rfl, Nat.le_refl _, ⟨rfl, by decide, fun h => absurd h (Nat.lt_irrefl 0)⟩, fun a h => by cases h⟩
  · injection e with e _
    injection e with e1 e2 e3
    subst e1 e2 e3
    simp only [if_true] at hmm
    have each : ∀ i, i < len → ∃ s : S26, okA s ∧ ∃ cs : List Value, cs.length = 6 ∧ k26.K W s cs ∧ ∀ j u, cs[j]? = some u → W.cell? (a.add (i * 6 + j)) = some u := by
      intro i hi
      obtain ⟨cs', h1, h2⟩ := hx i (by omega)
      rw [cells26] at h1
      obtain ⟨_, hlen, hcell⟩ := World.cells?_some h1
      obtain ⟨s, ok, hk⟩ := trod_act h2
      refine ⟨s, ok, cs', hlen, hk, fun j u hj => ?_⟩
      have hj6 : j < 6 := by
        rcases Nat.lt_or_ge j 6 with h | h
        · exact h
        · rw [List.getElem?_eq_none (by omega)] at hj; cases hj
      have h3 := hcell j hj6
      rw [hj] at h3
      rw [← h3]
      congr 1
      by_cases q1 : i * 6 = 0 <;> by_cases q2 : j = 0 <;> simp [Addr.add, q1, q2, Nat.add_assoc]
    haveI : Inhabited S26 := ⟨z26⟩
    obtain ⟨S, hS⟩ := Deep.choose_lt each
    have hlen : ((List.range len).map S).length = len := by simp
    refine ⟨(List.range len).map S, hlen.symm, by rw [hlen]; exact hl, ?_, fun s hs => ?_⟩
    · rw [hlen]
      refine ⟨hlen, by simp only [maxLen] at hm; omega, fun _ => ⟨a, rfl, fun j p hj => ?_⟩⟩
      have hjl : j < len := by
        rcases Nat.lt_or_ge j len with h | h
        · exact h
        · rw [List.getElem?_eq_none (by omega)] at hj; cases hj
      rw [List.getElem?_map, List.getElem?_range hjl] at hj
      injection hj with hj
      subst hj
      obtain ⟨_, cs, hc, hK, hcell⟩ := hS j hjl
      exact ⟨cs, hc, hK, fun i u hi => hcell i u hi⟩
    · obtain ⟨i, hi, rfl⟩ := List.mem_map.1 hs
      exact (hS i (List.mem_range.1 hi)).1
end
#print axioms open_acts
end Go.Proofs.YtahfcdlggaoakaaDoor.Rd

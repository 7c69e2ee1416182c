/- slices.Grow of nil, and slices.Concat of two slices of ints. Conditions: at most seven long each. -/
import Derived.Test.YtahfcdlggaoakaaDoorPl
namespace Go.Proofs.YtahfcdlggaoakaaDoor.Rd
open Go.RowKit Go.Proofs.YtahfcdlggaoakaaDoorW.PrintWords Go.Proofs.YtahfcdlggaoakaaDoorW.PrintLast Go.Proofs.YtahfcdlggaoakaaDoorW.PrintMore
open Go.Proofs.YtahfcdlggaoakaaDoor.PScriptDecodes

theorem grow_zero (w : World) : Calls Tryd.prog 39 #[.slice none 0 0, .int .i64 0] w fun e w' => e = .returned (.slice none 0 0) ∧ w' = w := by
  go_enter Tryd.func39, Tryd.ntmps39
  go_wp2
  go_ret
  exact ⟨rfl, rfl⟩

def GrowPost (w : World) (e : Ending) (w' : World) : Prop := ∃ v, e = .returned v ∧ w'.ownsRow w.heap.size 3 1 v 0 [] ∧ Below w.heap.size w w'

set_option maxHeartbeats 1000000 in
theorem grow_some (n : Nat) (hn : 0 < n) (h14 : n ≤ 14) (w : World) : Calls Tryd.prog 39 #[.slice none 0 0, .int .i64 (n : Int)] w (GrowPost w) := by
  obtain ⟨i3, hi, hz0, hz1, hz2⟩ := info_parts info3
  have hold : (Builtin.firstCells i3.size 0 (.slice none 0 0)).run Tryd.prog w.drew = .ok ([] : List Value).toArray w.drew := run_firstCells_none w.drew i3.size 0 0 0
  have hrz : ∀ ty, (Builtin.append_ #[22, 3] ty #[.slice none 0 0, .int .i64 (n : Int)]).run Tryd.prog w =
      .ok (.slice (some ⟨w.heap.size, 0, none⟩) n (grownCap w n 0 3)) (w.drew.alloc (.cells (([] : List Value).toArray ++ Builtin.zeroCells (Value.int .i64 0).cells n ++ Builtin.zeroCells (Value.int .i64 0).cells (grownCap w n 0 3 - n)) 3)) := fun ty => by
    have h := Lib.run_append_grow_zeros w 22 3 ty 3 i3 (.int .i64 0) .i64 .i64 Tryd.underlying22 Tryd.underlying3 hi hz0 none 0 0 [] hold n hn (by omega) (by omega) (by omega) (by rw [hz2]; omega)
      (by rw [Nat.zero_add]; exact growslice_fits (by omega) (by rw [hz2]; omega))
    simpa using h
  have hGn : n ≤ grownCap w n 0 3 := grownCap_ge w _ _ _
  have hGm := grownCap_le_maxLen w n 0 3 (by unfold maxLen; omega)
  obtain ⟨G, hG⟩ : ∃ G, G = grownCap w n 0 3 := ⟨_, rfl⟩
  rw [← hG] at hrz hGn hGm
  have hG63 : G ≤ 9223372036854775807 := by unfold maxLen at hGm; omega
  have h2 : wrap64 ((n : Int) - 0) = (n : Int) := by unfold wrap64; omega
  have hfin : ∀ (cur : Array Value), cur.size = G → (w.drew.alloc (.cells cur 3)).ownsRow w.heap.size 3 1 (.slice (some ⟨w.heap.size, 0, none⟩) 0 G) 0 [] := fun cur hc =>
    ⟨rfl, .inr ⟨w.heap.size, G, cur, rfl, Nat.le_refl _, blk_new w.drew _, Nat.zero_le _, hGm, by rw [hc, Nat.mul_one], by simp⟩⟩
  have hF := Aside0.mk hfin
  clear hold hG hfin
  have hcs : (([] : List Value).toArray ++ Builtin.zeroCells (Value.int .i64 0).cells n ++ Builtin.zeroCells (Value.int .i64 0).cells (G - n)).size = G := by
    simp [Builtin.zeroCells, Value.cells]; omega
  generalize ([] : List Value).toArray ++ Builtin.zeroCells (Value.int .i64 0).cells n ++ Builtin.zeroCells (Value.int .i64 0).cells (G - n) = cur at *
  have HC := Aside0.mk hcs
  have HGM := Aside0.mk hGm
  clear hcs hGm h2
  go_enter Tryd.func39, Tryd.ntmps39
  go_wp2_with (at_builtin; refine Lib.wpList_append_run _ rfl _ _ _ _ rfl _ _ rfl rfl _ _ (hrz _) ?_)
  go_ret
  exact ⟨_, rfl, hF.out cur HC.out, below_alloc (below_drew (Below.refl _ _)) _⟩

theorem grow_any (n : Nat) (h14 : n ≤ 14) (w : World) : Calls Tryd.prog 39 #[.slice none 0 0, .int .i64 (n : Int)] w (GrowPost w) := by
  by_cases hn : 0 < n
  · exact grow_some n hn h14 w
  · obtain rfl : n = 0 := by omega
    exact (grow_zero w).mono (fun e w' ⟨he, hw⟩ => by subst hw; exact ⟨_, he, own_nil _ _ _ _, Below.refl _ _⟩)

def ConcatPost (w : World) (zs : List Int) (e : Ending) (w' : World) : Prop := ∃ v, e = .returned v ∧ w'.ownsRow w.heap.size 3 1 v zs.length (nums .i64 zs) ∧ Below w.heap.size w w'

set_option maxHeartbeats 2000000 in
theorem concat_two (b : Nat) (A0 A1 : Option Addr) (c0 c1 : Nat) (ks ts : List Int) (w : World) (hb : w.heap[b]? = some (.cells #[.slice A0 ks.length c0, .slice A1 ts.length c1] 22 (0, 0)))
    (h0 : ReadsInt w .i64 A0 ks.length ks) (h1 : ReadsInt w .i64 A1 ts.length ts) (l0 : ks.length ≤ 7) (l1 : ts.length ≤ 7) (hc0 : ks.length ≤ c0) (hc1 : ts.length ≤ c1) :
    Calls Tryd.prog 25 #[.slice (some ⟨b, 0, none⟩) 2 2] w (ConcatPost w (ks ++ ts)) := by
  have x0 : w.cell? ⟨b, 0, none⟩ = some (.slice A0 ks.length c0) := blk_cell hb 0
  have x1 : w.cell? ⟨b, 1, none⟩ = some (.slice A1 ts.length c1) := blk_cell hb 1
  obtain ⟨n0, hn0⟩ : ∃ n0, n0 = ks.length := ⟨_, rfl⟩
  obtain ⟨n1, hn1⟩ : ∃ n1, n1 = ts.length := ⟨_, rfl⟩
  rw [← hn0] at x0 l0 hc0 h0 hb
  rw [← hn1] at x1 l1 hc1 h1 hb
  have H0 := Aside0.mk h0
  have H1 := Aside0.mk h1
  have HBk := Aside0.mk hb
  clear h0 h1 hb
  have HN0 := Aside0.mk hn0
  have HN1 := Aside0.mk hn1
  clear hn0 hn1
  go_enter Tryd.func25, Tryd.ntmps25
  go_wp2
  go_loopg [11, 3] 2 (fun kq v11 v3 wr => ∃ (j s : Nat), j + kq = 2 ∧ v11 = .int .i64 (j : Int) ∧ v3 = .int .i64 (s : Int) ∧ ((j = 0 ∧ s = 0) ∨ (j = 1 ∧ s = n0) ∨ (j = 2 ∧ s = n0 + n1)) ∧ w = wr)
  case atStart => exact ⟨0, 0, rfl, rfl, rfl, .inl ⟨rfl, rfl⟩, rfl⟩
  case round =>
    obtain ⟨j, s, hjk, rfl, rfl, hcase, rfl⟩ := hrel
    rcases hcase with ⟨rfl, rfl⟩ | ⟨rfl, rfl⟩ | ⟨rfl, rfl⟩
    · have HJ := Aside0.mk hjk
      clear hjk
      go_wp2
      go_roundg 1
      case measure => have := HJ.out; omega
      case rel => exact ⟨1, n0, rfl, by go_num, by go_num, .inr (.inl ⟨rfl, rfl⟩), rfl⟩
    · have HJ := Aside0.mk hjk
      clear hjk
      go_wp2
      go_roundg 0
      case measure => have := HJ.out; omega
      case rel => exact ⟨2, s + n1, rfl, by go_num, by go_num, .inr (.inr ⟨rfl, rfl⟩), rfl⟩
    · have HJ := Aside0.mk hjk
      clear hjk
      go_wp2_with fail
      rw [show ((n0 : Int) + (n1 : Int)) = ((n0 + n1 : Nat) : Int) from by omega]
      refine (grow_any (n0 + n1) (by omega) _).mono ?_
      rintro e w1 ⟨v, rfl, hv, hbl⟩
      have HV := Aside0.mk hv
      have HBL := Aside0.mk hbl
      clear hv hbl x0 x1
      go_wp2
      go_loopg [27, 6] 2 (fun kq v27 v6 wq => ∃ (i : Nat) (zs : List Int), i + kq = 2 ∧ v27 = .int .i64 (i : Int) ∧ ((i = 0 ∧ zs = []) ∨ (i = 1 ∧ zs = ks) ∨ (i = 2 ∧ zs = ks ++ ts)) ∧ Aside0 (wq.ownsRow w.heap.size 3 1 v6 zs.length (nums .i64 zs)) ∧ Aside0 (Below w.heap.size w wq))
      case atStart => exact ⟨0, [], rfl, rfl, .inl ⟨rfl, rfl⟩, HV, HBL⟩
      case round =>
        obtain ⟨i, zs, hik, rfl, hcase, HO, HB⟩ := hrel
        have HI := Aside0.mk hik
        clear hik
        have y0 := (HB.out.cell (p := ⟨b, 0, none⟩) (blk_lt HBk.out)).trans ((blk_cell HBk.out 0).trans rfl)
        have y1 := (HB.out.cell (p := ⟨b, 1, none⟩) (blk_lt HBk.out)).trans ((blk_cell HBk.out 1).trans rfl)
        rcases hcase with ⟨rfl, rfl⟩ | ⟨rfl, rfl⟩ | ⟨rfl, rfl⟩
        · go_wp2_with (at_builtin; refine print_append_row (w0 := w) w.heap.size rfl (.tmp 31) (.tmp 32) 22 3 .i64 8 rfl Tryd.underlying22 info3 (by decide) _ [] ks A0 n0 c0 rfl rfl HO.out (H0.out.below HB.out) HB.out HB.out.size (by have := HN0.out; simp; omega) ?_; intro nv w3 ho hb hg hat)
          have HO2 := Aside0.mk ho
          have HB2 := Aside0.mk hb
          clear ho hb hg hat y0 y1
          go_wp2
          go_roundg 1
          case measure => have := HI.out; omega
          case rel => exact ⟨1, ks, rfl, by go_num, .inr (.inl ⟨rfl, rfl⟩), ⟨by simpa using HO2.out⟩, HB2⟩
        · go_wp2_with (at_builtin; refine print_append_row (w0 := w) w.heap.size rfl (.tmp 31) (.tmp 32) 22 3 .i64 8 rfl Tryd.underlying22 info3 (by decide) _ zs ts A1 n1 c1 rfl rfl HO.out (H1.out.below HB.out) HB.out HB.out.size (by have := HN0.out; have := HN1.out; omega) ?_; intro nv w3 ho hb hg hat)
          have HO2 := Aside0.mk ho
          have HB2 := Aside0.mk hb
          clear ho hb hg hat y0 y1
          go_wp2
          go_roundg 0
          case measure => have := HI.out; omega
          case rel => exact ⟨2, zs ++ ts, rfl, by go_num, .inr (.inr ⟨rfl, rfl⟩), HO2, HB2⟩
        · go_wp2
          go_ret
          exact ⟨_, rfl, HO.out, HB.out⟩
#print axioms concat_two
end Go.Proofs.YtahfcdlggaoakaaDoor.Rd

/- What memory looks like while a crash is taken: the reader, the crash's two slices, the frame. Conditions: none. -/
import Derived.Test.YtahfcdlggaoakaaDoorRd
namespace Go.Proofs.YtahfcdlggaoakaaDoor.Rd
open Go.RowKit Go.Proofs.YtahfcdlggaoakaaDoorW.PrintWords Go.Proofs.YtahfcdlggaoakaaDoorW.PrintLast Go.Proofs.YtahfcdlggaoakaaDoorW.PrintMore
open Go.Proofs.YtahfcdlggaoakaaDoor.PScriptDecodes

/-- 'w' is z but for block g and what is new. -/
theorem gr_drew {z w : World} {r : Option Nat} (h : z.grownBy w r) : z.grownBy w.drew r := ⟨h.os, h.tape, h.output, h.size, h.block⟩
theorem gr_drewN {z w : World} {r : Option Nat} (h : z.grownBy w r) (n : Nat) : z.grownBy (w.drewN n) r := ⟨h.os, h.tape, h.output, h.size, h.block⟩
theorem gr_alloc {z w : World} {r : Option Nat} (h : z.grownBy w r) (o : Obj) : z.grownBy (w.alloc o) r :=
  ⟨h.os, h.tape, h.output, Nat.le_trans h.size (below_alloc (Below.refl _ w) o).size, fun k hk hr => (Below.heap_alloc w o k (Nat.lt_of_lt_of_le hk h.size)).trans (h.block k hk hr)⟩
theorem gr_set {z w : World} {r : Option Nat} (h : z.grownBy w r) {p : Addr} (hp : z.heap.size ≤ p.block ∨ some p.block = r) (u : Value) : z.grownBy (w.setCell p u) r :=
  ⟨h.os, h.tape, h.output, by simpa [World.setCell] using h.size, fun k hk hr => (Below.heap_setCell w p u k (fun e => by subst e; rcases hp with hp | hp; omega; exact hr hp)).trans (h.block k hk hr)⟩
theorem gr_gr {z w w' : World} {r row : Option Nat} (h : z.grownBy w r) (hg : w.grownBy w' row) (hr : ∀ k, row = some k → z.heap.size ≤ k ∨ some k = r) : z.grownBy w' r :=
  ⟨hg.os.trans h.os, hg.tape.trans h.tape, hg.output.trans h.output, Nat.le_trans h.size hg.size, fun k hk hne => (hg.block k (Nat.lt_of_lt_of_le hk h.size) (fun e => by
    rcases hr k e.symm with h1 | h1
    · omega
    · exact hne h1)).trans (h.block k hk hne)⟩

abbrev RI (w : World) (base : Nat) (ok : Nat → Prop) (v : Value) (xs : List Int) : Prop := Kd.R (Kd.int .i64) 3 w base ok v xs

structure CS (z w : World) (B g cb : Nat) (rs : List Int) (u0 u1 : Value) (ks ts : List Int) : Prop where
  rd : Rd w B g rs
  blk : w.heap[cb]? = some (.cells #[u0, u1] 24 (0, 0))
  kp : RI w z.heap.size (fun k => some k ≠ u1.ownBlock) u0 ks
  tn : RI w z.heap.size (fun k => some k ≠ u0.ownBlock) u1 ts
  fr : z.grownBy w (some g)
  gb : g < z.heap.size
  cb : z.heap.size ≤ cb

theorem RI.ok {w : World} {base : Nat} {ok : Nat → Prop} {v : Value} {xs : List Int} (h : RI w base ok v xs) : RI w base (fun k => v.ownBlock = some k) v xs := Kd.R_mono (Kd.R_tight rfl h) (fun _ e => e.symm)
theorem RI.any {w : World} {base : Nat} {ok ok' : Nat → Prop} {v : Value} {xs : List Int} (h : RI w base ok v xs) (hk : ∀ k, v.ownBlock = some k → ok' k) : RI w base ok' v xs := Kd.R_mono h.ok (fun k e => hk k e)
/-- The two slices lie in two blocks. -/
theorem CS.apart {z w : World} {B g cb : Nat} {rs : List Int} {u0 u1 : Value} {ks ts : List Int} (h : CS z w B g cb rs u0 u1 ks ts) : ∀ k, u0.ownBlock = some k → some k ≠ u1.ownBlock := h.kp.1
theorem CS.u0_ne {z w : World} {B g cb : Nat} {rs : List Int} {u0 u1 : Value} {ks ts : List Int} (h : CS z w B g cb rs u0 u1 ks ts) : ∀ k, u0.ownBlock = some k → z.heap.size ≤ k ∧ k < w.heap.size ∧ k ≠ cb :=
  fun k e => ⟨Kd.R_base h.kp k e, Kd.R_lt h.kp k e, fun e' => Kd.R_ne h.kp h.blk (by decide) (by rw [e, e'])⟩
theorem CS.u1_ne {z w : World} {B g cb : Nat} {rs : List Int} {u0 u1 : Value} {ks ts : List Int} (h : CS z w B g cb rs u0 u1 ks ts) : ∀ k, u1.ownBlock = some k → z.heap.size ≤ k ∧ k < w.heap.size ∧ k ≠ cb :=
  fun k e => ⟨Kd.R_base h.tn k e, Kd.R_lt h.tn k e, fun e' => Kd.R_ne h.tn h.blk (by decide) (by rw [e, e'])⟩

theorem CS.drew {z w : World} {B g cb : Nat} {rs : List Int} {u0 u1 : Value} {ks ts : List Int} (h : CS z w B g cb rs u0 u1 ks ts) : CS z w.drew B g cb rs u0 u1 ks ts :=
  ⟨h.rd.below (below_drew (Below.refl _ _)), h.blk, Kd.R_drew h.kp, Kd.R_drew h.tn, gr_drew h.fr, h.gb, h.cb⟩
theorem CS.byte {z w w' : World} {B g cb : Nat} {rs rs' : List Int} {u0 u1 : Value} {ks ts : List Int} (h : CS z w B g cb rs u0 u1 ks ts) (hr : Rd w' B g rs') (hg : w.grownBy w' (some g)) : CS z w' B g cb rs' u0 u1 ks ts :=
  ⟨hr, blk_grown h.blk hg (by have := h.gb; have := h.cb; intro e; injection e; omega),
    RI.any (Kd.R_grown h.kp.ok hg (fun k e e' => by injection e' with e'; have := (h.u0_ne k e).1; have := h.gb; omega)) h.kp.1,
    RI.any (Kd.R_grown h.tn.ok hg (fun k e e' => by injection e' with e'; have := (h.u1_ne k e).1; have := h.gb; omega)) h.tn.1, grown_trans h.fr hg, h.gb, h.cb⟩
theorem CS.app0 {z w w2 : World} {B g cb : Nat} {rs : List Int} {u0 u1 nv : Value} {ks ts ks' : List Int} (h : CS z w B g cb rs u0 u1 ks ts)
    (ho : RI w2 z.heap.size (fun k => some k ≠ u1.ownBlock) nv ks') (hg : w.grownBy w2 u0.ownBlock) : CS z (w2.setCell ⟨cb, 0, none⟩ nv) B g cb rs nv u1 ks' ts := by
  have hb2 : w2.heap[cb]? = some (.cells #[u0, u1] 24 (0, 0)) := blk_grown h.blk hg (fun e => (h.u0_ne cb e.symm).2.2 rfl)
  have hgb := h.gb
  have hcb := h.cb
  have hrd2 : Rd w2 B g rs := h.rd.grown hg (fun e => by have := (h.u0_ne g e.symm).1; omega) (fun k e => by have := (h.u0_ne k e).1; have := h.rd.ge; omega)
  have ht2 : RI w2 z.heap.size (fun k => some k ≠ u0.ownBlock) u1 ts := RI.any (Kd.R_grown h.tn.ok hg (fun k e e' => h.apart k e'.symm e.symm)) h.tn.1
  refine ⟨hrd2.move (Below.heap_setCell _ _ _ _ (by simp; omega)) (fun i hi => Below.heap_setCell _ _ _ _ (by simp; have := h.rd.ge; omega)), blk_put hb2 0 nv rfl,
    RI.any (Kd.R_far ho.ok (p := ⟨cb, 0, none⟩) (fun k e e' => Kd.R_ne ho hb2 (by decide) (by rw [e, e'])) nv) ho.1,
    RI.any (Kd.R_far ht2.ok (p := ⟨cb, 0, none⟩) (fun k e e' => Kd.R_ne ht2 hb2 (by decide) (by rw [e, e'])) nv) (fun k e e' => ho.1 k e'.symm e.symm),
    gr_set (gr_gr h.fr hg (fun k e => .inl (h.u0_ne k e).1)) (.inl h.cb) nv, h.gb, h.cb⟩
theorem CS.app1 {z w w2 : World} {B g cb : Nat} {rs : List Int} {u0 u1 nv : Value} {ks ts ts' : List Int} (h : CS z w B g cb rs u0 u1 ks ts)
    (ho : RI w2 z.heap.size (fun k => some k ≠ u0.ownBlock) nv ts') (hg : w.grownBy w2 u1.ownBlock) : CS z (w2.setCell ⟨cb, 1, none⟩ nv) B g cb rs u0 nv ks ts' := by
  have hb2 : w2.heap[cb]? = some (.cells #[u0, u1] 24 (0, 0)) := blk_grown h.blk hg (fun e => (h.u1_ne cb e.symm).2.2 rfl)
  have hgb := h.gb
  have hcb := h.cb
  have hrd2 : Rd w2 B g rs := h.rd.grown hg (fun e => by have := (h.u1_ne g e.symm).1; omega) (fun k e => by have := (h.u1_ne k e).1; have := h.rd.ge; omega)
  have hk2 : RI w2 z.heap.size (fun k => some k ≠ u1.ownBlock) u0 ks := RI.any (Kd.R_grown h.kp.ok hg (fun k e e' => h.apart k e e')) h.kp.1
  refine ⟨hrd2.move (Below.heap_setCell _ _ _ _ (by simp; omega)) (fun i hi => Below.heap_setCell _ _ _ _ (by simp; have := h.rd.ge; omega)), blk_put hb2 1 nv rfl,
    RI.any (Kd.R_far hk2.ok (p := ⟨cb, 1, none⟩) (fun k e e' => Kd.R_ne hk2 hb2 (by decide) (by rw [e, e'])) nv) (fun k e e' => ho.1 k e'.symm e.symm),
    RI.any (Kd.R_far ho.ok (p := ⟨cb, 1, none⟩) (fun k e e' => Kd.R_ne ho hb2 (by decide) (by rw [e, e'])) nv) ho.1,
    gr_set (gr_gr h.fr hg (fun k e => .inl (h.u1_ne k e).1)) (.inl h.cb) nv, h.gb, h.cb⟩

end Go.Proofs.YtahfcdlggaoakaaDoor.Rd

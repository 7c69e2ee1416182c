/- (*reader).act: it returns the act that stands next, and the reader stands behind it. Conditions: none. -/
import Derived.Test.YtahfcdlggaoakaaDoorCrash
namespace Go.Proofs.YtahfcdlggaoakaaDoor.Rd
open Go.RowKit Go.Proofs.YtahfcdlggaoakaaDoorW.PrintWords Go.Proofs.YtahfcdlggaoakaaDoorW.PrintLast Go.Proofs.YtahfcdlggaoakaaDoorW.PrintMore
open Go.Proofs.YtahfcdlggaoakaaDoor.PScriptDecodes

/-- A row of the call's own at block zb, beside the reader. -/
structure AS (z w : World) (B g zb t : Nat) (rs : List Int) (cs : Array Value) : Prop where
  rd : Rd w B g rs
  blk : w.heap[zb]? = some (.cells cs t (0, 0))
  fr : z.grownBy w (some g)
  gb : g < z.heap.size
  zb : z.heap.size ≤ zb

theorem AS.set {z w : World} {B g zb t : Nat} {rs : List Int} {cs : Array Value} (h : AS z w B g zb t rs cs) (i : Nat) (v : Value) {cs' : Array Value} (e : cs.setIfInBounds i v = cs') : AS z (w.setCell ⟨zb, i, none⟩ v) B g zb t rs cs' :=
  ⟨h.rd.move (Below.heap_setCell _ _ _ _ (by have := h.gb; have := h.zb; simp; omega)) (fun k hk => Below.heap_setCell _ _ _ _ (by have := h.gb; have := h.zb; have := h.rd.ge; simp; omega)), blk_put h.blk i v e, gr_set h.fr (.inl h.zb) v, h.gb, h.zb⟩
theorem AS.call {z w w' : World} {B g zb t : Nat} {rs rs' : List Int} {cs : Array Value} (h : AS z w B g zb t rs cs) (hr : Rd w' B g rs') (hg : w.grownBy w' (some g)) : AS z w' B g zb t rs' cs :=
  ⟨hr, blk_grown h.blk hg (by have := h.gb; have := h.zb; intro e; injection e; omega), grown_trans h.fr hg, h.gb, h.zb⟩
theorem AS.cell {z w : World} {B g zb t : Nat} {rs : List Int} {cs : Array Value} (h : AS z w B g zb t rs cs) (i : Nat) {v : Value} (e : cs[i]? = some v) : w.cell? ⟨zb, i, none⟩ = some v := (blk_cell h.blk i).trans e
theorem AS.free {z w : World} {B g zb t : Nat} {rs : List Int} {cs : Array Value} (h : AS z w B g zb t rs cs) (i : Nat) : w.frozen? ⟨zb, i, none⟩ = false := blk_frozen h.blk i

/-- What stands next, and what is left. -/
def actNode (k : Int) (r : List Int) : Int × List Int := if k = 1 ∨ 5 ≤ k ∧ k ≤ 8 then (1 + hd r % 5, tl r) else if k = 9 then (hd r % 32, tl r) else (0, r)
def actNum (k : Int) (r : List Int) : Int × List Int := if 2 ≤ k ∧ k ≤ 6 ∨ k = 9 then (hd r, tl r) else (0, r)
def actText (k : Int) (r : List Int) : ByteArray × List Int := if k = 1 then (textOf r, textRest r) else (⟨#[]⟩, r)
def actCrash (k : Int) (r : List Int) : List Int × List Int × List Int := if k = 6 ∨ k = 7 then pairs (hd r % 8).toNat (tl r) else ([], [], r)
def actRest (xs : List Int) : List Int :=
  (actCrash (1 + hd xs % 9) (actText (1 + hd xs % 9) (actNum (1 + hd xs % 9) (actNode (1 + hd xs % 9) (tl xs)).2).2).2).2.2
def actOf (xs : List Int) : S26 :=
  ⟨1 + hd xs % 9, (actNode (1 + hd xs % 9) (tl xs)).1, (actNum (1 + hd xs % 9) (actNode (1 + hd xs % 9) (tl xs)).2).1,
   (actText (1 + hd xs % 9) (actNum (1 + hd xs % 9) (actNode (1 + hd xs % 9) (tl xs)).2).2).1,
   ⟨(actCrash (1 + hd xs % 9) (actText (1 + hd xs % 9) (actNum (1 + hd xs % 9) (actNode (1 + hd xs % 9) (tl xs)).2).2).2).1,
    (actCrash (1 + hd xs % 9) (actText (1 + hd xs % 9) (actNum (1 + hd xs % 9) (actNode (1 + hd xs % 9) (tl xs)).2).2).2).2.1⟩⟩

def ActPost (z : World) (B g : Nat) (a : S26) (rest : List Int) (e : Ending) (w' : World) : Prop :=
  ∃ v4 v5 : Value, e = .returned (.agg #[.int .u8 a.f0, .int .u8 a.f1, .int .i64 a.f2, .string a.f3, v4, v5]) ∧
    RI w' z.heap.size (fun k => some k ≠ v5.ownBlock) v4 a.f4.f0 ∧ RI w' z.heap.size (fun k => some k ≠ v4.ownBlock) v5 a.f4.f1 ∧ Rd w' B g rest ∧ z.grownBy w' (some g)

theorem tmod_small {p : Int} (h : 0 ≤ p) (n : Int) : p.tmod n = p % n := Int.tmod_eq_emod_of_nonneg h

theorem takes_1 (w : World) : Calls Tryd.prog 22 #[.int .u8 1] w fun e w' => e = .returned (.int .i64 9) ∧ w' = w := by
  go_enter Tryd.func22, Tryd.ntmps22
  go_wp2
  go_ret
  exact ⟨rfl, rfl⟩
theorem takes_2 (w : World) : Calls Tryd.prog 22 #[.int .u8 2] w fun e w' => e = .returned (.int .i64 4) ∧ w' = w := by
  go_enter Tryd.func22, Tryd.ntmps22
  go_wp2
  go_ret
  exact ⟨rfl, rfl⟩
theorem takes_3 (w : World) : Calls Tryd.prog 22 #[.int .u8 3] w fun e w' => e = .returned (.int .i64 4) ∧ w' = w := by
  go_enter Tryd.func22, Tryd.ntmps22
  go_wp2
  go_ret
  exact ⟨rfl, rfl⟩
theorem takes_4 (w : World) : Calls Tryd.prog 22 #[.int .u8 4] w fun e w' => e = .returned (.int .i64 4) ∧ w' = w := by
  go_enter Tryd.func22, Tryd.ntmps22
  go_wp2
  go_ret
  exact ⟨rfl, rfl⟩
theorem takes_5 (w : World) : Calls Tryd.prog 22 #[.int .u8 5] w fun e w' => e = .returned (.int .i64 5) ∧ w' = w := by
  go_enter Tryd.func22, Tryd.ntmps22
  go_wp2
  go_ret
  exact ⟨rfl, rfl⟩
theorem takes_6 (w : World) : Calls Tryd.prog 22 #[.int .u8 6] w fun e w' => e = .returned (.int .i64 21) ∧ w' = w := by
  go_enter Tryd.func22, Tryd.ntmps22
  go_wp2
  go_ret
  exact ⟨rfl, rfl⟩
theorem takes_7 (w : World) : Calls Tryd.prog 22 #[.int .u8 7] w fun e w' => e = .returned (.int .i64 17) ∧ w' = w := by
  go_enter Tryd.func22, Tryd.ntmps22
  go_wp2
  go_ret
  exact ⟨rfl, rfl⟩
theorem takes_8 (w : World) : Calls Tryd.prog 22 #[.int .u8 8] w fun e w' => e = .returned (.int .i64 1) ∧ w' = w := by
  go_enter Tryd.func22, Tryd.ntmps22
  go_wp2
  go_ret
  exact ⟨rfl, rfl⟩
theorem takes_9 (w : World) : Calls Tryd.prog 22 #[.int .u8 9] w fun e w' => e = .returned (.int .i64 6) ∧ w' = w := by
  go_enter Tryd.func22, Tryd.ntmps22
  go_wp2
  go_ret
  exact ⟨rfl, rfl⟩

set_option maxHeartbeats 1000000 in
theorem act_1 (B g : Nat) (xs : List Int) (z : World) (h : Rd z B g xs) (hk : hd xs % 9 = 0) :
    Calls Tryd.prog 18 #[.pointer (some ⟨g, 0, none⟩)] z (ActPost z B g (actOf xs) (actRest xs)) := by
  have hE : actOf xs = ⟨1, 1 + hd (tl xs) % 5, 0, textOf (tl (tl xs)), ⟨[], []⟩⟩ := by simp [actOf, actNode, actNum, actText, actCrash, hk]
  have hR : actRest xs = (textRest (tl (tl xs))) := by simp [actRest, actNode, actNum, actText, actCrash, hk]
  rw [hE, hR]
  have hB0 := h.byte
  have hB1 : ∀ x ∈ tl xs, 0 ≤ x ∧ x ≤ 255 := fun x hx => hB0 x (List.mem_of_mem_tail hx)
  obtain ⟨p0, p1⟩ := head_byte hB0
  obtain ⟨q0, q1⟩ := head_byte hB1
  have hk2 : hd xs % 9 = 0 := hk
  rw [← tmod_small p0] at hk
  clear hB0 hB1 hE hR
  unfold ActPost
  go_enter Tryd.func18, Tryd.ntmps18
  go_wp2_with fail
  refine (byte_any B g xs _ (h.below (below_alloc (Below.refl _ _) _))).mono ?_
  rintro e w1 ⟨rfl, h1, g1⟩
  have H : Aside0 (AS z w1 B g z.heap.size 26 (tl xs) #[.int .u8 0, .int .u8 0, .int .i64 0, .string ⟨#[]⟩, .slice none 0 0, .slice none 0 0]) :=
    ⟨⟨h1, blk_grown (blk_new _ _) g1 (by have := h.lt; intro e; injection e; omega), grown_trans (gr_alloc (grown_refl _ _) _) g1, h.lt, Nat.le_refl _⟩⟩
  clear h1 g1 h
  have c0 := H.out.cell 0 (v := .int .u8 0) rfl
  have f0 := H.out.free 0
  go_wp2_with fail
  have n0_ := Aside0.mk (H.out.set 0 (.int .u8 1) (cs' := #[.int .u8 1, .int .u8 0, .int .i64 0, .string ⟨#[]⟩, .slice none 0 0, .slice none 0 0]) rfl)
  clear H c0 f0
  have H := n0_
  clear n0_
  generalize World.setCell _ _ _ = ws at H ⊢
  refine (takes_1 _).mono ?_
  rintro e w2 ⟨rfl, rfl⟩
  go_wp2_with fail
  refine (byte_any B g (tl xs) _ H.out.rd).mono ?_
  rintro e w3 ⟨rfl, hr1, hg1⟩
  have n0_ := Aside0.mk (H.out.call hr1 hg1)
  clear H hr1 hg1
  have H := n0_
  clear n0_
  have q2 := tmod_small q0 5
  have c1 := H.out.cell 1 (v := .int .u8 0) rfl
  have f1 := H.out.free 1
  go_wp2_with fail
  have n0_ := Aside0.mk (H.out.set 1 (.int .u8 (1 + hd (tl xs) % 5)) (cs' := #[.int .u8 1, .int .u8 (1 + hd (tl xs) % 5), .int .i64 0, .string ⟨#[]⟩, .slice none 0 0, .slice none 0 0]) rfl)
  clear H c1 f1
  have H := n0_
  clear n0_
  generalize World.setCell _ _ _ = ws at H ⊢
  refine (text_any B g (tl (tl xs)) _ H.out.rd).mono ?_
  rintro e w4 ⟨rfl, hr1, hg1⟩
  have n0_ := Aside0.mk (H.out.call hr1 hg1)
  clear H hr1 hg1
  have H := n0_
  clear n0_
  have c0 := H.out.cell 0 (v := .int .u8 1) rfl
  have f0 := H.out.free 0
  have c1 := H.out.cell 1 (v := .int .u8 (1 + hd (tl xs) % 5)) rfl
  have f1 := H.out.free 1
  have c2 := H.out.cell 2 (v := .int .i64 0) rfl
  have f2 := H.out.free 2
  have c3 := H.out.cell 3 (v := .string ⟨#[]⟩) rfl
  have f3 := H.out.free 3
  have c4 := H.out.cell 4 (v := .slice none 0 0) rfl
  have f4 := H.out.free 4
  have c5 := H.out.cell 5 (v := .slice none 0 0) rfl
  have f5 := H.out.free 5
  go_wp2
  have HE := (((((((H.out.set 3 (.string (textOf (tl (tl xs)))) (cs' := #[.int .u8 1, .int .u8 (1 + hd (tl xs) % 5), .int .i64 0, .string (textOf (tl (tl xs))), .slice none 0 0, .slice none 0 0]) rfl).set 0 (.int .u8 1) (cs' := #[.int .u8 1, .int .u8 (1 + hd (tl xs) % 5), .int .i64 0, .string (textOf (tl (tl xs))), .slice none 0 0, .slice none 0 0]) rfl).set 1 (.int .u8 (1 + hd (tl xs) % 5)) (cs' := #[.int .u8 1, .int .u8 (1 + hd (tl xs) % 5), .int .i64 0, .string (textOf (tl (tl xs))), .slice none 0 0, .slice none 0 0]) rfl).set 2 (.int .i64 0) (cs' := #[.int .u8 1, .int .u8 (1 + hd (tl xs) % 5), .int .i64 0, .string (textOf (tl (tl xs))), .slice none 0 0, .slice none 0 0]) rfl).set 3 (.string (textOf (tl (tl xs)))) (cs' := #[.int .u8 1, .int .u8 (1 + hd (tl xs) % 5), .int .i64 0, .string (textOf (tl (tl xs))), .slice none 0 0, .slice none 0 0]) rfl).set 4 (.slice none 0 0) (cs' := #[.int .u8 1, .int .u8 (1 + hd (tl xs) % 5), .int .i64 0, .string (textOf (tl (tl xs))), .slice none 0 0, .slice none 0 0]) rfl).set 5 (.slice none 0 0) (cs' := #[.int .u8 1, .int .u8 (1 + hd (tl xs) % 5), .int .i64 0, .string (textOf (tl (tl xs))), .slice none 0 0, .slice none 0 0]) rfl)
  refine bodyPost_ret (v := .agg #[.int .u8 1, .int .u8 (1 + hd (tl xs) % 5), .int .i64 0, .string (textOf (tl (tl xs))), .slice none 0 0, .slice none 0 0]) ?_ rfl ⟨_, _, rfl, (Kd.R_nil _ _ _ _ _), (Kd.R_nil _ _ _ _ _), HE.rd, HE.fr⟩
  exact results_single rfl (.cell z.heap.size 26 #[.int .u8 1, .int .u8 (1 + hd (tl xs) % 5), .int .i64 0, .string (textOf (tl (tl xs))), .slice none 0 0, .slice none 0 0] (0, 0) _ rfl HE.blk Tryd.underlying26 rfl (by kernel_rfl) .nil)

set_option maxHeartbeats 1000000 in
theorem act_2 (B g : Nat) (xs : List Int) (z : World) (h : Rd z B g xs) (hk : hd xs % 9 = 1) :
    Calls Tryd.prog 18 #[.pointer (some ⟨g, 0, none⟩)] z (ActPost z B g (actOf xs) (actRest xs)) := by
  have hE : actOf xs = ⟨2, 0, hd (tl xs), ⟨#[]⟩, ⟨[], []⟩⟩ := by simp [actOf, actNode, actNum, actText, actCrash, hk]
  have hR : actRest xs = (tl (tl xs)) := by simp [actRest, actNode, actNum, actText, actCrash, hk]
  rw [hE, hR]
  have hB0 := h.byte
  have hB1 : ∀ x ∈ tl xs, 0 ≤ x ∧ x ≤ 255 := fun x hx => hB0 x (List.mem_of_mem_tail hx)
  obtain ⟨p0, p1⟩ := head_byte hB0
  obtain ⟨q0, q1⟩ := head_byte hB1
  have hk2 : hd xs % 9 = 1 := hk
  rw [← tmod_small p0] at hk
  clear hB0 hB1 hE hR
  unfold ActPost
  go_enter Tryd.func18, Tryd.ntmps18
  go_wp2_with fail
  refine (byte_any B g xs _ (h.below (below_alloc (Below.refl _ _) _))).mono ?_
  rintro e w1 ⟨rfl, h1, g1⟩
  have H : Aside0 (AS z w1 B g z.heap.size 26 (tl xs) #[.int .u8 0, .int .u8 0, .int .i64 0, .string ⟨#[]⟩, .slice none 0 0, .slice none 0 0]) :=
    ⟨⟨h1, blk_grown (blk_new _ _) g1 (by have := h.lt; intro e; injection e; omega), grown_trans (gr_alloc (grown_refl _ _) _) g1, h.lt, Nat.le_refl _⟩⟩
  clear h1 g1 h
  have c0 := H.out.cell 0 (v := .int .u8 0) rfl
  have f0 := H.out.free 0
  go_wp2_with fail
  have n0_ := Aside0.mk (H.out.set 0 (.int .u8 2) (cs' := #[.int .u8 2, .int .u8 0, .int .i64 0, .string ⟨#[]⟩, .slice none 0 0, .slice none 0 0]) rfl)
  clear H c0 f0
  have H := n0_
  clear n0_
  generalize World.setCell _ _ _ = ws at H ⊢
  refine (takes_2 _).mono ?_
  rintro e w2 ⟨rfl, rfl⟩
  go_wp2_with fail
  refine (byte_any B g (tl xs) _ H.out.rd).mono ?_
  rintro e w3 ⟨rfl, hr1, hg1⟩
  have n0_ := Aside0.mk (H.out.call hr1 hg1)
  clear H hr1 hg1
  have H := n0_
  clear n0_
  have c0 := H.out.cell 0 (v := .int .u8 2) rfl
  have f0 := H.out.free 0
  have c1 := H.out.cell 1 (v := .int .u8 0) rfl
  have f1 := H.out.free 1
  have c2 := H.out.cell 2 (v := .int .i64 0) rfl
  have f2 := H.out.free 2
  have c3 := H.out.cell 3 (v := .string ⟨#[]⟩) rfl
  have f3 := H.out.free 3
  have c4 := H.out.cell 4 (v := .slice none 0 0) rfl
  have f4 := H.out.free 4
  have c5 := H.out.cell 5 (v := .slice none 0 0) rfl
  have f5 := H.out.free 5
  go_wp2
  have HE := (((((((H.out.set 2 (.int .i64 (hd (tl xs))) (cs' := #[.int .u8 2, .int .u8 0, .int .i64 (hd (tl xs)), .string ⟨#[]⟩, .slice none 0 0, .slice none 0 0]) rfl).set 0 (.int .u8 2) (cs' := #[.int .u8 2, .int .u8 0, .int .i64 (hd (tl xs)), .string ⟨#[]⟩, .slice none 0 0, .slice none 0 0]) rfl).set 1 (.int .u8 0) (cs' := #[.int .u8 2, .int .u8 0, .int .i64 (hd (tl xs)), .string ⟨#[]⟩, .slice none 0 0, .slice none 0 0]) rfl).set 2 (.int .i64 (hd (tl xs))) (cs' := #[.int .u8 2, .int .u8 0, .int .i64 (hd (tl xs)), .string ⟨#[]⟩, .slice none 0 0, .slice none 0 0]) rfl).set 3 (.string ⟨#[]⟩) (cs' := #[.int .u8 2, .int .u8 0, .int .i64 (hd (tl xs)), .string ⟨#[]⟩, .slice none 0 0, .slice none 0 0]) rfl).set 4 (.slice none 0 0) (cs' := #[.int .u8 2, .int .u8 0, .int .i64 (hd (tl xs)), .string ⟨#[]⟩, .slice none 0 0, .slice none 0 0]) rfl).set 5 (.slice none 0 0) (cs' := #[.int .u8 2, .int .u8 0, .int .i64 (hd (tl xs)), .string ⟨#[]⟩, .slice none 0 0, .slice none 0 0]) rfl)
  refine bodyPost_ret (v := .agg #[.int .u8 2, .int .u8 0, .int .i64 (hd (tl xs)), .string ⟨#[]⟩, .slice none 0 0, .slice none 0 0]) ?_ rfl ⟨_, _, rfl, (Kd.R_nil _ _ _ _ _), (Kd.R_nil _ _ _ _ _), HE.rd, HE.fr⟩
  exact results_single rfl (.cell z.heap.size 26 #[.int .u8 2, .int .u8 0, .int .i64 (hd (tl xs)), .string ⟨#[]⟩, .slice none 0 0, .slice none 0 0] (0, 0) _ rfl HE.blk Tryd.underlying26 rfl (by kernel_rfl) .nil)

set_option maxHeartbeats 1000000 in
theorem act_3 (B g : Nat) (xs : List Int) (z : World) (h : Rd z B g xs) (hk : hd xs % 9 = 2) :
    Calls Tryd.prog 18 #[.pointer (some ⟨g, 0, none⟩)] z (ActPost z B g (actOf xs) (actRest xs)) := by
  have hE : actOf xs = ⟨3, 0, hd (tl xs), ⟨#[]⟩, ⟨[], []⟩⟩ := by simp [actOf, actNode, actNum, actText, actCrash, hk]
  have hR : actRest xs = (tl (tl xs)) := by simp [actRest, actNode, actNum, actText, actCrash, hk]
  rw [hE, hR]
  have hB0 := h.byte
  have hB1 : ∀ x ∈ tl xs, 0 ≤ x ∧ x ≤ 255 := fun x hx => hB0 x (List.mem_of_mem_tail hx)
  obtain ⟨p0, p1⟩ := head_byte hB0
  obtain ⟨q0, q1⟩ := head_byte hB1
  have hk2 : hd xs % 9 = 2 := hk
  rw [← tmod_small p0] at hk
  clear hB0 hB1 hE hR
  unfold ActPost
  go_enter Tryd.func18, Tryd.ntmps18
  go_wp2_with fail
  refine (byte_any B g xs _ (h.below (below_alloc (Below.refl _ _) _))).mono ?_
  rintro e w1 ⟨rfl, h1, g1⟩
  have H : Aside0 (AS z w1 B g z.heap.size 26 (tl xs) #[.int .u8 0, .int .u8 0, .int .i64 0, .string ⟨#[]⟩, .slice none 0 0, .slice none 0 0]) :=
    ⟨⟨h1, blk_grown (blk_new _ _) g1 (by have := h.lt; intro e; injection e; omega), grown_trans (gr_alloc (grown_refl _ _) _) g1, h.lt, Nat.le_refl _⟩⟩
  clear h1 g1 h
  have c0 := H.out.cell 0 (v := .int .u8 0) rfl
  have f0 := H.out.free 0
  go_wp2_with fail
  have n0_ := Aside0.mk (H.out.set 0 (.int .u8 3) (cs' := #[.int .u8 3, .int .u8 0, .int .i64 0, .string ⟨#[]⟩, .slice none 0 0, .slice none 0 0]) rfl)
  clear H c0 f0
  have H := n0_
  clear n0_
  generalize World.setCell _ _ _ = ws at H ⊢
  refine (takes_3 _).mono ?_
  rintro e w2 ⟨rfl, rfl⟩
  go_wp2_with fail
  refine (byte_any B g (tl xs) _ H.out.rd).mono ?_
  rintro e w3 ⟨rfl, hr1, hg1⟩
  have n0_ := Aside0.mk (H.out.call hr1 hg1)
  clear H hr1 hg1
  have H := n0_
  clear n0_
  have c0 := H.out.cell 0 (v := .int .u8 3) rfl
  have f0 := H.out.free 0
  have c1 := H.out.cell 1 (v := .int .u8 0) rfl
  have f1 := H.out.free 1
  have c2 := H.out.cell 2 (v := .int .i64 0) rfl
  have f2 := H.out.free 2
  have c3 := H.out.cell 3 (v := .string ⟨#[]⟩) rfl
  have f3 := H.out.free 3
  have c4 := H.out.cell 4 (v := .slice none 0 0) rfl
  have f4 := H.out.free 4
  have c5 := H.out.cell 5 (v := .slice none 0 0) rfl
  have f5 := H.out.free 5
  go_wp2
  have HE := (((((((H.out.set 2 (.int .i64 (hd (tl xs))) (cs' := #[.int .u8 3, .int .u8 0, .int .i64 (hd (tl xs)), .string ⟨#[]⟩, .slice none 0 0, .slice none 0 0]) rfl).set 0 (.int .u8 3) (cs' := #[.int .u8 3, .int .u8 0, .int .i64 (hd (tl xs)), .string ⟨#[]⟩, .slice none 0 0, .slice none 0 0]) rfl).set 1 (.int .u8 0) (cs' := #[.int .u8 3, .int .u8 0, .int .i64 (hd (tl xs)), .string ⟨#[]⟩, .slice none 0 0, .slice none 0 0]) rfl).set 2 (.int .i64 (hd (tl xs))) (cs' := #[.int .u8 3, .int .u8 0, .int .i64 (hd (tl xs)), .string ⟨#[]⟩, .slice none 0 0, .slice none 0 0]) rfl).set 3 (.string ⟨#[]⟩) (cs' := #[.int .u8 3, .int .u8 0, .int .i64 (hd (tl xs)), .string ⟨#[]⟩, .slice none 0 0, .slice none 0 0]) rfl).set 4 (.slice none 0 0) (cs' := #[.int .u8 3, .int .u8 0, .int .i64 (hd (tl xs)), .string ⟨#[]⟩, .slice none 0 0, .slice none 0 0]) rfl).set 5 (.slice none 0 0) (cs' := #[.int .u8 3, .int .u8 0, .int .i64 (hd (tl xs)), .string ⟨#[]⟩, .slice none 0 0, .slice none 0 0]) rfl)
  refine bodyPost_ret (v := .agg #[.int .u8 3, .int .u8 0, .int .i64 (hd (tl xs)), .string ⟨#[]⟩, .slice none 0 0, .slice none 0 0]) ?_ rfl ⟨_, _, rfl, (Kd.R_nil _ _ _ _ _), (Kd.R_nil _ _ _ _ _), HE.rd, HE.fr⟩
  exact results_single rfl (.cell z.heap.size 26 #[.int .u8 3, .int .u8 0, .int .i64 (hd (tl xs)), .string ⟨#[]⟩, .slice none 0 0, .slice none 0 0] (0, 0) _ rfl HE.blk Tryd.underlying26 rfl (by kernel_rfl) .nil)

set_option maxHeartbeats 1000000 in
theorem act_4 (B g : Nat) (xs : List Int) (z : World) (h : Rd z B g xs) (hk : hd xs % 9 = 3) :
    Calls Tryd.prog 18 #[.pointer (some ⟨g, 0, none⟩)] z (ActPost z B g (actOf xs) (actRest xs)) := by
  have hE : actOf xs = ⟨4, 0, hd (tl xs), ⟨#[]⟩, ⟨[], []⟩⟩ := by simp [actOf, actNode, actNum, actText, actCrash, hk]
  have hR : actRest xs = (tl (tl xs)) := by simp [actRest, actNode, actNum, actText, actCrash, hk]
  rw [hE, hR]
  have hB0 := h.byte
  have hB1 : ∀ x ∈ tl xs, 0 ≤ x ∧ x ≤ 255 := fun x hx => hB0 x (List.mem_of_mem_tail hx)
  obtain ⟨p0, p1⟩ := head_byte hB0
  obtain ⟨q0, q1⟩ := head_byte hB1
  have hk2 : hd xs % 9 = 3 := hk
  rw [← tmod_small p0] at hk
  clear hB0 hB1 hE hR
  unfold ActPost
  go_enter Tryd.func18, Tryd.ntmps18
  go_wp2_with fail
  refine (byte_any B g xs _ (h.below (below_alloc (Below.refl _ _) _))).mono ?_
  rintro e w1 ⟨rfl, h1, g1⟩
  have H : Aside0 (AS z w1 B g z.heap.size 26 (tl xs) #[.int .u8 0, .int .u8 0, .int .i64 0, .string ⟨#[]⟩, .slice none 0 0, .slice none 0 0]) :=
    ⟨⟨h1, blk_grown (blk_new _ _) g1 (by have := h.lt; intro e; injection e; omega), grown_trans (gr_alloc (grown_refl _ _) _) g1, h.lt, Nat.le_refl _⟩⟩
  clear h1 g1 h
  have c0 := H.out.cell 0 (v := .int .u8 0) rfl
  have f0 := H.out.free 0
  go_wp2_with fail
  have n0_ := Aside0.mk (H.out.set 0 (.int .u8 4) (cs' := #[.int .u8 4, .int .u8 0, .int .i64 0, .string ⟨#[]⟩, .slice none 0 0, .slice none 0 0]) rfl)
  clear H c0 f0
  have H := n0_
  clear n0_
  generalize World.setCell _ _ _ = ws at H ⊢
  refine (takes_4 _).mono ?_
  rintro e w2 ⟨rfl, rfl⟩
  go_wp2_with fail
  refine (byte_any B g (tl xs) _ H.out.rd).mono ?_
  rintro e w3 ⟨rfl, hr1, hg1⟩
  have n0_ := Aside0.mk (H.out.call hr1 hg1)
  clear H hr1 hg1
  have H := n0_
  clear n0_
  have c0 := H.out.cell 0 (v := .int .u8 4) rfl
  have f0 := H.out.free 0
  have c1 := H.out.cell 1 (v := .int .u8 0) rfl
  have f1 := H.out.free 1
  have c2 := H.out.cell 2 (v := .int .i64 0) rfl
  have f2 := H.out.free 2
  have c3 := H.out.cell 3 (v := .string ⟨#[]⟩) rfl
  have f3 := H.out.free 3
  have c4 := H.out.cell 4 (v := .slice none 0 0) rfl
  have f4 := H.out.free 4
  have c5 := H.out.cell 5 (v := .slice none 0 0) rfl
  have f5 := H.out.free 5
  go_wp2
  have HE := (((((((H.out.set 2 (.int .i64 (hd (tl xs))) (cs' := #[.int .u8 4, .int .u8 0, .int .i64 (hd (tl xs)), .string ⟨#[]⟩, .slice none 0 0, .slice none 0 0]) rfl).set 0 (.int .u8 4) (cs' := #[.int .u8 4, .int .u8 0, .int .i64 (hd (tl xs)), .string ⟨#[]⟩, .slice none 0 0, .slice none 0 0]) rfl).set 1 (.int .u8 0) (cs' := #[.int .u8 4, .int .u8 0, .int .i64 (hd (tl xs)), .string ⟨#[]⟩, .slice none 0 0, .slice none 0 0]) rfl).set 2 (.int .i64 (hd (tl xs))) (cs' := #[.int .u8 4, .int .u8 0, .int .i64 (hd (tl xs)), .string ⟨#[]⟩, .slice none 0 0, .slice none 0 0]) rfl).set 3 (.string ⟨#[]⟩) (cs' := #[.int .u8 4, .int .u8 0, .int .i64 (hd (tl xs)), .string ⟨#[]⟩, .slice none 0 0, .slice none 0 0]) rfl).set 4 (.slice none 0 0) (cs' := #[.int .u8 4, .int .u8 0, .int .i64 (hd (tl xs)), .string ⟨#[]⟩, .slice none 0 0, .slice none 0 0]) rfl).set 5 (.slice none 0 0) (cs' := #[.int .u8 4, .int .u8 0, .int .i64 (hd (tl xs)), .string ⟨#[]⟩, .slice none 0 0, .slice none 0 0]) rfl)
  refine bodyPost_ret (v := .agg #[.int .u8 4, .int .u8 0, .int .i64 (hd (tl xs)), .string ⟨#[]⟩, .slice none 0 0, .slice none 0 0]) ?_ rfl ⟨_, _, rfl, (Kd.R_nil _ _ _ _ _), (Kd.R_nil _ _ _ _ _), HE.rd, HE.fr⟩
  exact results_single rfl (.cell z.heap.size 26 #[.int .u8 4, .int .u8 0, .int .i64 (hd (tl xs)), .string ⟨#[]⟩, .slice none 0 0, .slice none 0 0] (0, 0) _ rfl HE.blk Tryd.underlying26 rfl (by kernel_rfl) .nil)

set_option maxHeartbeats 1000000 in
theorem act_5 (B g : Nat) (xs : List Int) (z : World) (h : Rd z B g xs) (hk : hd xs % 9 = 4) :
    Calls Tryd.prog 18 #[.pointer (some ⟨g, 0, none⟩)] z (ActPost z B g (actOf xs) (actRest xs)) := by
  have hE : actOf xs = ⟨5, 1 + hd (tl xs) % 5, hd (tl (tl xs)), ⟨#[]⟩, ⟨[], []⟩⟩ := by simp [actOf, actNode, actNum, actText, actCrash, hk]
  have hR : actRest xs = (tl (tl (tl xs))) := by simp [actRest, actNode, actNum, actText, actCrash, hk]
  rw [hE, hR]
  have hB0 := h.byte
  have hB1 : ∀ x ∈ tl xs, 0 ≤ x ∧ x ≤ 255 := fun x hx => hB0 x (List.mem_of_mem_tail hx)
  obtain ⟨p0, p1⟩ := head_byte hB0
  obtain ⟨q0, q1⟩ := head_byte hB1
  have hk2 : hd xs % 9 = 4 := hk
  rw [← tmod_small p0] at hk
  clear hB0 hB1 hE hR
  unfold ActPost
  go_enter Tryd.func18, Tryd.ntmps18
  go_wp2_with fail
  refine (byte_any B g xs _ (h.below (below_alloc (Below.refl _ _) _))).mono ?_
  rintro e w1 ⟨rfl, h1, g1⟩
  have H : Aside0 (AS z w1 B g z.heap.size 26 (tl xs) #[.int .u8 0, .int .u8 0, .int .i64 0, .string ⟨#[]⟩, .slice none 0 0, .slice none 0 0]) :=
    ⟨⟨h1, blk_grown (blk_new _ _) g1 (by have := h.lt; intro e; injection e; omega), grown_trans (gr_alloc (grown_refl _ _) _) g1, h.lt, Nat.le_refl _⟩⟩
  clear h1 g1 h
  have c0 := H.out.cell 0 (v := .int .u8 0) rfl
  have f0 := H.out.free 0
  go_wp2_with fail
  have n0_ := Aside0.mk (H.out.set 0 (.int .u8 5) (cs' := #[.int .u8 5, .int .u8 0, .int .i64 0, .string ⟨#[]⟩, .slice none 0 0, .slice none 0 0]) rfl)
  clear H c0 f0
  have H := n0_
  clear n0_
  generalize World.setCell _ _ _ = ws at H ⊢
  refine (takes_5 _).mono ?_
  rintro e w2 ⟨rfl, rfl⟩
  go_wp2_with fail
  refine (byte_any B g (tl xs) _ H.out.rd).mono ?_
  rintro e w3 ⟨rfl, hr1, hg1⟩
  have n0_ := Aside0.mk (H.out.call hr1 hg1)
  clear H hr1 hg1
  have H := n0_
  clear n0_
  have q2 := tmod_small q0 5
  have c1 := H.out.cell 1 (v := .int .u8 0) rfl
  have f1 := H.out.free 1
  go_wp2_with fail
  have n0_ := Aside0.mk (H.out.set 1 (.int .u8 (1 + hd (tl xs) % 5)) (cs' := #[.int .u8 5, .int .u8 (1 + hd (tl xs) % 5), .int .i64 0, .string ⟨#[]⟩, .slice none 0 0, .slice none 0 0]) rfl)
  clear H c1 f1
  have H := n0_
  clear n0_
  generalize World.setCell _ _ _ = ws at H ⊢
  refine (byte_any B g (tl (tl xs)) _ H.out.rd).mono ?_
  rintro e w4 ⟨rfl, hr1, hg1⟩
  have n0_ := Aside0.mk (H.out.call hr1 hg1)
  clear H hr1 hg1
  have H := n0_
  clear n0_
  have c0 := H.out.cell 0 (v := .int .u8 5) rfl
  have f0 := H.out.free 0
  have c1 := H.out.cell 1 (v := .int .u8 (1 + hd (tl xs) % 5)) rfl
  have f1 := H.out.free 1
  have c2 := H.out.cell 2 (v := .int .i64 0) rfl
  have f2 := H.out.free 2
  have c3 := H.out.cell 3 (v := .string ⟨#[]⟩) rfl
  have f3 := H.out.free 3
  have c4 := H.out.cell 4 (v := .slice none 0 0) rfl
  have f4 := H.out.free 4
  have c5 := H.out.cell 5 (v := .slice none 0 0) rfl
  have f5 := H.out.free 5
  go_wp2
  have HE := (((((((H.out.set 2 (.int .i64 (hd (tl (tl xs)))) (cs' := #[.int .u8 5, .int .u8 (1 + hd (tl xs) % 5), .int .i64 (hd (tl (tl xs))), .string ⟨#[]⟩, .slice none 0 0, .slice none 0 0]) rfl).set 0 (.int .u8 5) (cs' := #[.int .u8 5, .int .u8 (1 + hd (tl xs) % 5), .int .i64 (hd (tl (tl xs))), .string ⟨#[]⟩, .slice none 0 0, .slice none 0 0]) rfl).set 1 (.int .u8 (1 + hd (tl xs) % 5)) (cs' := #[.int .u8 5, .int .u8 (1 + hd (tl xs) % 5), .int .i64 (hd (tl (tl xs))), .string ⟨#[]⟩, .slice none 0 0, .slice none 0 0]) rfl).set 2 (.int .i64 (hd (tl (tl xs)))) (cs' := #[.int .u8 5, .int .u8 (1 + hd (tl xs) % 5), .int .i64 (hd (tl (tl xs))), .string ⟨#[]⟩, .slice none 0 0, .slice none 0 0]) rfl).set 3 (.string ⟨#[]⟩) (cs' := #[.int .u8 5, .int .u8 (1 + hd (tl xs) % 5), .int .i64 (hd (tl (tl xs))), .string ⟨#[]⟩, .slice none 0 0, .slice none 0 0]) rfl).set 4 (.slice none 0 0) (cs' := #[.int .u8 5, .int .u8 (1 + hd (tl xs) % 5), .int .i64 (hd (tl (tl xs))), .string ⟨#[]⟩, .slice none 0 0, .slice none 0 0]) rfl).set 5 (.slice none 0 0) (cs' := #[.int .u8 5, .int .u8 (1 + hd (tl xs) % 5), .int .i64 (hd (tl (tl xs))), .string ⟨#[]⟩, .slice none 0 0, .slice none 0 0]) rfl)
  refine bodyPost_ret (v := .agg #[.int .u8 5, .int .u8 (1 + hd (tl xs) % 5), .int .i64 (hd (tl (tl xs))), .string ⟨#[]⟩, .slice none 0 0, .slice none 0 0]) ?_ rfl ⟨_, _, rfl, (Kd.R_nil _ _ _ _ _), (Kd.R_nil _ _ _ _ _), HE.rd, HE.fr⟩
  exact results_single rfl (.cell z.heap.size 26 #[.int .u8 5, .int .u8 (1 + hd (tl xs) % 5), .int .i64 (hd (tl (tl xs))), .string ⟨#[]⟩, .slice none 0 0, .slice none 0 0] (0, 0) _ rfl HE.blk Tryd.underlying26 rfl (by kernel_rfl) .nil)

set_option maxHeartbeats 1000000 in
theorem act_6 (B g : Nat) (xs : List Int) (z : World) (h : Rd z B g xs) (hk : hd xs % 9 = 5) :
    Calls Tryd.prog 18 #[.pointer (some ⟨g, 0, none⟩)] z (ActPost z B g (actOf xs) (actRest xs)) := by
  have hE : actOf xs = ⟨6, 1 + hd (tl xs) % 5, hd (tl (tl xs)), ⟨#[]⟩, ⟨(pairs (hd (tl (tl (tl xs))) % 8).toNat (tl (tl (tl (tl xs))))).1, (pairs (hd (tl (tl (tl xs))) % 8).toNat (tl (tl (tl (tl xs))))).2.1⟩⟩ := by simp [actOf, actNode, actNum, actText, actCrash, hk]
  have hR : actRest xs = (pairs (hd (tl (tl (tl xs))) % 8).toNat (tl (tl (tl (tl xs))))).2.2 := by simp [actRest, actNode, actNum, actText, actCrash, hk]
  rw [hE, hR]
  obtain ⟨KS, TS, RS, hP⟩ : ∃ KS TS RS, pairs (hd (tl (tl (tl xs))) % 8).toNat (tl (tl (tl (tl xs)))) = (KS, TS, RS) := ⟨_, _, _, rfl⟩
  simp only [hP]
  have HP0 := Aside0.mk hP
  clear hP
  have hB0 := h.byte
  have hB1 : ∀ x ∈ tl xs, 0 ≤ x ∧ x ≤ 255 := fun x hx => hB0 x (List.mem_of_mem_tail hx)
  obtain ⟨p0, p1⟩ := head_byte hB0
  obtain ⟨q0, q1⟩ := head_byte hB1
  have hk2 : hd xs % 9 = 5 := hk
  rw [← tmod_small p0] at hk
  clear hB0 hB1 hE hR
  unfold ActPost
  go_enter Tryd.func18, Tryd.ntmps18
  go_wp2_with fail
  refine (byte_any B g xs _ (h.below (below_alloc (Below.refl _ _) _))).mono ?_
  rintro e w1 ⟨rfl, h1, g1⟩
  have H : Aside0 (AS z w1 B g z.heap.size 26 (tl xs) #[.int .u8 0, .int .u8 0, .int .i64 0, .string ⟨#[]⟩, .slice none 0 0, .slice none 0 0]) :=
    ⟨⟨h1, blk_grown (blk_new _ _) g1 (by have := h.lt; intro e; injection e; omega), grown_trans (gr_alloc (grown_refl _ _) _) g1, h.lt, Nat.le_refl _⟩⟩
  clear h1 g1 h
  have c0 := H.out.cell 0 (v := .int .u8 0) rfl
  have f0 := H.out.free 0
  go_wp2_with fail
  have n0_ := Aside0.mk (H.out.set 0 (.int .u8 6) (cs' := #[.int .u8 6, .int .u8 0, .int .i64 0, .string ⟨#[]⟩, .slice none 0 0, .slice none 0 0]) rfl)
  clear H c0 f0
  have H := n0_
  clear n0_
  generalize World.setCell _ _ _ = ws at H ⊢
  refine (takes_6 _).mono ?_
  rintro e w2 ⟨rfl, rfl⟩
  go_wp2_with fail
  refine (byte_any B g (tl xs) _ H.out.rd).mono ?_
  rintro e w3 ⟨rfl, hr1, hg1⟩
  have n0_ := Aside0.mk (H.out.call hr1 hg1)
  clear H hr1 hg1
  have H := n0_
  clear n0_
  have q2 := tmod_small q0 5
  have c1 := H.out.cell 1 (v := .int .u8 0) rfl
  have f1 := H.out.free 1
  go_wp2_with fail
  have n0_ := Aside0.mk (H.out.set 1 (.int .u8 (1 + hd (tl xs) % 5)) (cs' := #[.int .u8 6, .int .u8 (1 + hd (tl xs) % 5), .int .i64 0, .string ⟨#[]⟩, .slice none 0 0, .slice none 0 0]) rfl)
  clear H c1 f1
  have H := n0_
  clear n0_
  generalize World.setCell _ _ _ = ws at H ⊢
  refine (byte_any B g (tl (tl xs)) _ H.out.rd).mono ?_
  rintro e w4 ⟨rfl, hr1, hg1⟩
  have n0_ := Aside0.mk (H.out.call hr1 hg1)
  clear H hr1 hg1
  have H := n0_
  clear n0_
  have c2 := H.out.cell 2 (v := .int .i64 0) rfl
  have f2 := H.out.free 2
  go_wp2_with fail
  have n0_ := Aside0.mk (H.out.set 2 (.int .i64 (hd (tl (tl xs)))) (cs' := #[.int .u8 6, .int .u8 (1 + hd (tl xs) % 5), .int .i64 (hd (tl (tl xs))), .string ⟨#[]⟩, .slice none 0 0, .slice none 0 0]) rfl)
  clear H c2 f2
  have H := n0_
  clear n0_
  generalize World.setCell _ _ _ = ws at H ⊢
  refine (crash_any B g (tl (tl (tl xs))) _ H.out.rd).mono ?_
  rintro e w5 ⟨v4, v5, rfl, hv4, hv5, hr1, hg1⟩
  rw [HP0.out] at hv4 hv5 hr1
  have hzs := Aside0.mk H.out.fr.size
  have n0_ := Aside0.mk (H.out.call hr1 hg1)
  clear H hr1 hg1
  have H := n0_
  clear n0_
  have HV4 := Aside0.mk (Kd.R_lower hv4 hzs.out)
  have HV5 := Aside0.mk (Kd.R_lower hv5 hzs.out)
  clear hv4 hv5 hzs
  obtain ⟨A4, n4, e4⟩ := Kd.R_slice HV4.out
  obtain ⟨A5, n5, e5⟩ := Kd.R_slice HV5.out
  subst e4
  subst e5
  have c0 := H.out.cell 0 (v := .int .u8 6) rfl
  have f0 := H.out.free 0
  have c1 := H.out.cell 1 (v := .int .u8 (1 + hd (tl xs) % 5)) rfl
  have f1 := H.out.free 1
  have c2 := H.out.cell 2 (v := .int .i64 (hd (tl (tl xs)))) rfl
  have f2 := H.out.free 2
  have c3 := H.out.cell 3 (v := .string ⟨#[]⟩) rfl
  have f3 := H.out.free 3
  have c4 := H.out.cell 4 (v := .slice none 0 0) rfl
  have f4 := H.out.free 4
  have c5 := H.out.cell 5 (v := .slice none 0 0) rfl
  have f5 := H.out.free 5
  go_wp2
  have HE := ((((((((H.out.set 4 (.slice A4 KS.length n4) (cs' := #[.int .u8 6, .int .u8 (1 + hd (tl xs) % 5), .int .i64 (hd (tl (tl xs))), .string ⟨#[]⟩, .slice A4 KS.length n4, .slice none 0 0]) rfl).set 5 (.slice A5 TS.length n5) (cs' := #[.int .u8 6, .int .u8 (1 + hd (tl xs) % 5), .int .i64 (hd (tl (tl xs))), .string ⟨#[]⟩, .slice A4 KS.length n4, .slice A5 TS.length n5]) rfl).set 0 (.int .u8 6) (cs' := #[.int .u8 6, .int .u8 (1 + hd (tl xs) % 5), .int .i64 (hd (tl (tl xs))), .string ⟨#[]⟩, .slice A4 KS.length n4, .slice A5 TS.length n5]) rfl).set 1 (.int .u8 (1 + hd (tl xs) % 5)) (cs' := #[.int .u8 6, .int .u8 (1 + hd (tl xs) % 5), .int .i64 (hd (tl (tl xs))), .string ⟨#[]⟩, .slice A4 KS.length n4, .slice A5 TS.length n5]) rfl).set 2 (.int .i64 (hd (tl (tl xs)))) (cs' := #[.int .u8 6, .int .u8 (1 + hd (tl xs) % 5), .int .i64 (hd (tl (tl xs))), .string ⟨#[]⟩, .slice A4 KS.length n4, .slice A5 TS.length n5]) rfl).set 3 (.string ⟨#[]⟩) (cs' := #[.int .u8 6, .int .u8 (1 + hd (tl xs) % 5), .int .i64 (hd (tl (tl xs))), .string ⟨#[]⟩, .slice A4 KS.length n4, .slice A5 TS.length n5]) rfl).set 4 (.slice A4 KS.length n4) (cs' := #[.int .u8 6, .int .u8 (1 + hd (tl xs) % 5), .int .i64 (hd (tl (tl xs))), .string ⟨#[]⟩, .slice A4 KS.length n4, .slice A5 TS.length n5]) rfl).set 5 (.slice A5 TS.length n5) (cs' := #[.int .u8 6, .int .u8 (1 + hd (tl xs) % 5), .int .i64 (hd (tl (tl xs))), .string ⟨#[]⟩, .slice A4 KS.length n4, .slice A5 TS.length n5]) rfl)
  have hb := (H.out.blk)
  have F4 : ∀ k, (Value.slice A4 KS.length n4).ownBlock = some k → k ≠ z.heap.size := fun k e e' => Kd.R_ne HV4.out hb (by decide) (by rw [e, e'])
  have F5 : ∀ k, (Value.slice A5 TS.length n5).ownBlock = some k → k ≠ z.heap.size := fun k e e' => Kd.R_ne HV5.out hb (by decide) (by rw [e, e'])
  have far : ∀ {w : World} {ok : Nat → Prop} {v : Value} {ys : List Int} (i : Nat) (u : Value), (∀ k, v.ownBlock = some k → k ≠ z.heap.size) → RI w z.heap.size ok v ys → RI (w.setCell ⟨z.heap.size, i, none⟩ u) z.heap.size ok v ys :=
    fun i u hne hr => RI.any (Kd.R_far (RI.ok hr) (p := ⟨z.heap.size, i, none⟩) (fun k e e' => hne k e e') u) hr.1
  refine bodyPost_ret (v := .agg #[.int .u8 6, .int .u8 (1 + hd (tl xs) % 5), .int .i64 (hd (tl (tl xs))), .string ⟨#[]⟩, .slice A4 KS.length n4, .slice A5 TS.length n5]) ?_ rfl ⟨_, _, rfl, (far 5 _ F4 (far 4 _ F4 (far 3 _ F4 (far 2 _ F4 (far 1 _ F4 (far 0 _ F4 (far 5 _ F4 (far 4 _ F4 HV4.out)))))))), (far 5 _ F5 (far 4 _ F5 (far 3 _ F5 (far 2 _ F5 (far 1 _ F5 (far 0 _ F5 (far 5 _ F5 (far 4 _ F5 HV5.out)))))))), HE.rd, HE.fr⟩
  exact results_single rfl (.cell z.heap.size 26 #[.int .u8 6, .int .u8 (1 + hd (tl xs) % 5), .int .i64 (hd (tl (tl xs))), .string ⟨#[]⟩, .slice A4 KS.length n4, .slice A5 TS.length n5] (0, 0) _ rfl HE.blk Tryd.underlying26 rfl (by kernel_rfl) .nil)

set_option maxHeartbeats 1000000 in
theorem act_7 (B g : Nat) (xs : List Int) (z : World) (h : Rd z B g xs) (hk : hd xs % 9 = 6) :
    Calls Tryd.prog 18 #[.pointer (some ⟨g, 0, none⟩)] z (ActPost z B g (actOf xs) (actRest xs)) := by
  have hE : actOf xs = ⟨7, 1 + hd (tl xs) % 5, 0, ⟨#[]⟩, ⟨(pairs (hd (tl (tl xs)) % 8).toNat (tl (tl (tl xs)))).1, (pairs (hd (tl (tl xs)) % 8).toNat (tl (tl (tl xs)))).2.1⟩⟩ := by simp [actOf, actNode, actNum, actText, actCrash, hk]
  have hR : actRest xs = (pairs (hd (tl (tl xs)) % 8).toNat (tl (tl (tl xs)))).2.2 := by simp [actRest, actNode, actNum, actText, actCrash, hk]
  rw [hE, hR]
  obtain ⟨KS, TS, RS, hP⟩ : ∃ KS TS RS, pairs (hd (tl (tl xs)) % 8).toNat (tl (tl (tl xs))) = (KS, TS, RS) := ⟨_, _, _, rfl⟩
  simp only [hP]
  have HP0 := Aside0.mk hP
  clear hP
  have hB0 := h.byte
  have hB1 : ∀ x ∈ tl xs, 0 ≤ x ∧ x ≤ 255 := fun x hx => hB0 x (List.mem_of_mem_tail hx)
  obtain ⟨p0, p1⟩ := head_byte hB0
  obtain ⟨q0, q1⟩ := head_byte hB1
  have hk2 : hd xs % 9 = 6 := hk
  rw [← tmod_small p0] at hk
  clear hB0 hB1 hE hR
  unfold ActPost
  go_enter Tryd.func18, Tryd.ntmps18
  go_wp2_with fail
  refine (byte_any B g xs _ (h.below (below_alloc (Below.refl _ _) _))).mono ?_
  rintro e w1 ⟨rfl, h1, g1⟩
  have H : Aside0 (AS z w1 B g z.heap.size 26 (tl xs) #[.int .u8 0, .int .u8 0, .int .i64 0, .string ⟨#[]⟩, .slice none 0 0, .slice none 0 0]) :=
    ⟨⟨h1, blk_grown (blk_new _ _) g1 (by have := h.lt; intro e; injection e; omega), grown_trans (gr_alloc (grown_refl _ _) _) g1, h.lt, Nat.le_refl _⟩⟩
  clear h1 g1 h
  have c0 := H.out.cell 0 (v := .int .u8 0) rfl
  have f0 := H.out.free 0
  go_wp2_with fail
  have n0_ := Aside0.mk (H.out.set 0 (.int .u8 7) (cs' := #[.int .u8 7, .int .u8 0, .int .i64 0, .string ⟨#[]⟩, .slice none 0 0, .slice none 0 0]) rfl)
  clear H c0 f0
  have H := n0_
  clear n0_
  generalize World.setCell _ _ _ = ws at H ⊢
  refine (takes_7 _).mono ?_
  rintro e w2 ⟨rfl, rfl⟩
  go_wp2_with fail
  refine (byte_any B g (tl xs) _ H.out.rd).mono ?_
  rintro e w3 ⟨rfl, hr1, hg1⟩
  have n0_ := Aside0.mk (H.out.call hr1 hg1)
  clear H hr1 hg1
  have H := n0_
  clear n0_
  have q2 := tmod_small q0 5
  have c1 := H.out.cell 1 (v := .int .u8 0) rfl
  have f1 := H.out.free 1
  go_wp2_with fail
  have n0_ := Aside0.mk (H.out.set 1 (.int .u8 (1 + hd (tl xs) % 5)) (cs' := #[.int .u8 7, .int .u8 (1 + hd (tl xs) % 5), .int .i64 0, .string ⟨#[]⟩, .slice none 0 0, .slice none 0 0]) rfl)
  clear H c1 f1
  have H := n0_
  clear n0_
  generalize World.setCell _ _ _ = ws at H ⊢
  refine (crash_any B g (tl (tl xs)) _ H.out.rd).mono ?_
  rintro e w4 ⟨v4, v5, rfl, hv4, hv5, hr1, hg1⟩
  rw [HP0.out] at hv4 hv5 hr1
  have hzs := Aside0.mk H.out.fr.size
  have n0_ := Aside0.mk (H.out.call hr1 hg1)
  clear H hr1 hg1
  have H := n0_
  clear n0_
  have HV4 := Aside0.mk (Kd.R_lower hv4 hzs.out)
  have HV5 := Aside0.mk (Kd.R_lower hv5 hzs.out)
  clear hv4 hv5 hzs
  obtain ⟨A4, n4, e4⟩ := Kd.R_slice HV4.out
  obtain ⟨A5, n5, e5⟩ := Kd.R_slice HV5.out
  subst e4
  subst e5
  have c0 := H.out.cell 0 (v := .int .u8 7) rfl
  have f0 := H.out.free 0
  have c1 := H.out.cell 1 (v := .int .u8 (1 + hd (tl xs) % 5)) rfl
  have f1 := H.out.free 1
  have c2 := H.out.cell 2 (v := .int .i64 0) rfl
  have f2 := H.out.free 2
  have c3 := H.out.cell 3 (v := .string ⟨#[]⟩) rfl
  have f3 := H.out.free 3
  have c4 := H.out.cell 4 (v := .slice none 0 0) rfl
  have f4 := H.out.free 4
  have c5 := H.out.cell 5 (v := .slice none 0 0) rfl
  have f5 := H.out.free 5
  go_wp2
  have HE := ((((((((H.out.set 4 (.slice A4 KS.length n4) (cs' := #[.int .u8 7, .int .u8 (1 + hd (tl xs) % 5), .int .i64 0, .string ⟨#[]⟩, .slice A4 KS.length n4, .slice none 0 0]) rfl).set 5 (.slice A5 TS.length n5) (cs' := #[.int .u8 7, .int .u8 (1 + hd (tl xs) % 5), .int .i64 0, .string ⟨#[]⟩, .slice A4 KS.length n4, .slice A5 TS.length n5]) rfl).set 0 (.int .u8 7) (cs' := #[.int .u8 7, .int .u8 (1 + hd (tl xs) % 5), .int .i64 0, .string ⟨#[]⟩, .slice A4 KS.length n4, .slice A5 TS.length n5]) rfl).set 1 (.int .u8 (1 + hd (tl xs) % 5)) (cs' := #[.int .u8 7, .int .u8 (1 + hd (tl xs) % 5), .int .i64 0, .string ⟨#[]⟩, .slice A4 KS.length n4, .slice A5 TS.length n5]) rfl).set 2 (.int .i64 0) (cs' := #[.int .u8 7, .int .u8 (1 + hd (tl xs) % 5), .int .i64 0, .string ⟨#[]⟩, .slice A4 KS.length n4, .slice A5 TS.length n5]) rfl).set 3 (.string ⟨#[]⟩) (cs' := #[.int .u8 7, .int .u8 (1 + hd (tl xs) % 5), .int .i64 0, .string ⟨#[]⟩, .slice A4 KS.length n4, .slice A5 TS.length n5]) rfl).set 4 (.slice A4 KS.length n4) (cs' := #[.int .u8 7, .int .u8 (1 + hd (tl xs) % 5), .int .i64 0, .string ⟨#[]⟩, .slice A4 KS.length n4, .slice A5 TS.length n5]) rfl).set 5 (.slice A5 TS.length n5) (cs' := #[.int .u8 7, .int .u8 (1 + hd (tl xs) % 5), .int .i64 0, .string ⟨#[]⟩, .slice A4 KS.length n4, .slice A5 TS.length n5]) rfl)
  have hb := (H.out.blk)
  have F4 : ∀ k, (Value.slice A4 KS.length n4).ownBlock = some k → k ≠ z.heap.size := fun k e e' => Kd.R_ne HV4.out hb (by decide) (by rw [e, e'])
  have F5 : ∀ k, (Value.slice A5 TS.length n5).ownBlock = some k → k ≠ z.heap.size := fun k e e' => Kd.R_ne HV5.out hb (by decide) (by rw [e, e'])
  have far : ∀ {w : World} {ok : Nat → Prop} {v : Value} {ys : List Int} (i : Nat) (u : Value), (∀ k, v.ownBlock = some k → k ≠ z.heap.size) → RI w z.heap.size ok v ys → RI (w.setCell ⟨z.heap.size, i, none⟩ u) z.heap.size ok v ys :=
    fun i u hne hr => RI.any (Kd.R_far (RI.ok hr) (p := ⟨z.heap.size, i, none⟩) (fun k e e' => hne k e e') u) hr.1
  refine bodyPost_ret (v := .agg #[.int .u8 7, .int .u8 (1 + hd (tl xs) % 5), .int .i64 0, .string ⟨#[]⟩, .slice A4 KS.length n4, .slice A5 TS.length n5]) ?_ rfl ⟨_, _, rfl, (far 5 _ F4 (far 4 _ F4 (far 3 _ F4 (far 2 _ F4 (far 1 _ F4 (far 0 _ F4 (far 5 _ F4 (far 4 _ F4 HV4.out)))))))), (far 5 _ F5 (far 4 _ F5 (far 3 _ F5 (far 2 _ F5 (far 1 _ F5 (far 0 _ F5 (far 5 _ F5 (far 4 _ F5 HV5.out)))))))), HE.rd, HE.fr⟩
  exact results_single rfl (.cell z.heap.size 26 #[.int .u8 7, .int .u8 (1 + hd (tl xs) % 5), .int .i64 0, .string ⟨#[]⟩, .slice A4 KS.length n4, .slice A5 TS.length n5] (0, 0) _ rfl HE.blk Tryd.underlying26 rfl (by kernel_rfl) .nil)

set_option maxHeartbeats 1000000 in
theorem act_8 (B g : Nat) (xs : List Int) (z : World) (h : Rd z B g xs) (hk : hd xs % 9 = 7) :
    Calls Tryd.prog 18 #[.pointer (some ⟨g, 0, none⟩)] z (ActPost z B g (actOf xs) (actRest xs)) := by
  have hE : actOf xs = ⟨8, 1 + hd (tl xs) % 5, 0, ⟨#[]⟩, ⟨[], []⟩⟩ := by simp [actOf, actNode, actNum, actText, actCrash, hk]
  have hR : actRest xs = (tl (tl xs)) := by simp [actRest, actNode, actNum, actText, actCrash, hk]
  rw [hE, hR]
  have hB0 := h.byte
  have hB1 : ∀ x ∈ tl xs, 0 ≤ x ∧ x ≤ 255 := fun x hx => hB0 x (List.mem_of_mem_tail hx)
  obtain ⟨p0, p1⟩ := head_byte hB0
  obtain ⟨q0, q1⟩ := head_byte hB1
  have hk2 : hd xs % 9 = 7 := hk
  rw [← tmod_small p0] at hk
  clear hB0 hB1 hE hR
  unfold ActPost
  go_enter Tryd.func18, Tryd.ntmps18
  go_wp2_with fail
  refine (byte_any B g xs _ (h.below (below_alloc (Below.refl _ _) _))).mono ?_
  rintro e w1 ⟨rfl, h1, g1⟩
  have H : Aside0 (AS z w1 B g z.heap.size 26 (tl xs) #[.int .u8 0, .int .u8 0, .int .i64 0, .string ⟨#[]⟩, .slice none 0 0, .slice none 0 0]) :=
    ⟨⟨h1, blk_grown (blk_new _ _) g1 (by have := h.lt; intro e; injection e; omega), grown_trans (gr_alloc (grown_refl _ _) _) g1, h.lt, Nat.le_refl _⟩⟩
  clear h1 g1 h
  have c0 := H.out.cell 0 (v := .int .u8 0) rfl
  have f0 := H.out.free 0
  go_wp2_with fail
  have n0_ := Aside0.mk (H.out.set 0 (.int .u8 8) (cs' := #[.int .u8 8, .int .u8 0, .int .i64 0, .string ⟨#[]⟩, .slice none 0 0, .slice none 0 0]) rfl)
  clear H c0 f0
  have H := n0_
  clear n0_
  generalize World.setCell _ _ _ = ws at H ⊢
  refine (takes_8 _).mono ?_
  rintro e w2 ⟨rfl, rfl⟩
  go_wp2_with fail
  refine (byte_any B g (tl xs) _ H.out.rd).mono ?_
  rintro e w3 ⟨rfl, hr1, hg1⟩
  have n0_ := Aside0.mk (H.out.call hr1 hg1)
  clear H hr1 hg1
  have H := n0_
  clear n0_
  have q2 := tmod_small q0 5
  have c0 := H.out.cell 0 (v := .int .u8 8) rfl
  have f0 := H.out.free 0
  have c1 := H.out.cell 1 (v := .int .u8 0) rfl
  have f1 := H.out.free 1
  have c2 := H.out.cell 2 (v := .int .i64 0) rfl
  have f2 := H.out.free 2
  have c3 := H.out.cell 3 (v := .string ⟨#[]⟩) rfl
  have f3 := H.out.free 3
  have c4 := H.out.cell 4 (v := .slice none 0 0) rfl
  have f4 := H.out.free 4
  have c5 := H.out.cell 5 (v := .slice none 0 0) rfl
  have f5 := H.out.free 5
  go_wp2
  have HE := (((((((H.out.set 1 (.int .u8 (1 + hd (tl xs) % 5)) (cs' := #[.int .u8 8, .int .u8 (1 + hd (tl xs) % 5), .int .i64 0, .string ⟨#[]⟩, .slice none 0 0, .slice none 0 0]) rfl).set 0 (.int .u8 8) (cs' := #[.int .u8 8, .int .u8 (1 + hd (tl xs) % 5), .int .i64 0, .string ⟨#[]⟩, .slice none 0 0, .slice none 0 0]) rfl).set 1 (.int .u8 (1 + hd (tl xs) % 5)) (cs' := #[.int .u8 8, .int .u8 (1 + hd (tl xs) % 5), .int .i64 0, .string ⟨#[]⟩, .slice none 0 0, .slice none 0 0]) rfl).set 2 (.int .i64 0) (cs' := #[.int .u8 8, .int .u8 (1 + hd (tl xs) % 5), .int .i64 0, .string ⟨#[]⟩, .slice none 0 0, .slice none 0 0]) rfl).set 3 (.string ⟨#[]⟩) (cs' := #[.int .u8 8, .int .u8 (1 + hd (tl xs) % 5), .int .i64 0, .string ⟨#[]⟩, .slice none 0 0, .slice none 0 0]) rfl).set 4 (.slice none 0 0) (cs' := #[.int .u8 8, .int .u8 (1 + hd (tl xs) % 5), .int .i64 0, .string ⟨#[]⟩, .slice none 0 0, .slice none 0 0]) rfl).set 5 (.slice none 0 0) (cs' := #[.int .u8 8, .int .u8 (1 + hd (tl xs) % 5), .int .i64 0, .string ⟨#[]⟩, .slice none 0 0, .slice none 0 0]) rfl)
  refine bodyPost_ret (v := .agg #[.int .u8 8, .int .u8 (1 + hd (tl xs) % 5), .int .i64 0, .string ⟨#[]⟩, .slice none 0 0, .slice none 0 0]) ?_ rfl ⟨_, _, rfl, (Kd.R_nil _ _ _ _ _), (Kd.R_nil _ _ _ _ _), HE.rd, HE.fr⟩
  exact results_single rfl (.cell z.heap.size 26 #[.int .u8 8, .int .u8 (1 + hd (tl xs) % 5), .int .i64 0, .string ⟨#[]⟩, .slice none 0 0, .slice none 0 0] (0, 0) _ rfl HE.blk Tryd.underlying26 rfl (by kernel_rfl) .nil)

set_option maxHeartbeats 1000000 in
theorem act_9 (B g : Nat) (xs : List Int) (z : World) (h : Rd z B g xs) (hk : hd xs % 9 = 8) :
    Calls Tryd.prog 18 #[.pointer (some ⟨g, 0, none⟩)] z (ActPost z B g (actOf xs) (actRest xs)) := by
  have hE : actOf xs = ⟨9, hd (tl xs) % 32, hd (tl (tl xs)), ⟨#[]⟩, ⟨[], []⟩⟩ := by simp [actOf, actNode, actNum, actText, actCrash, hk]
  have hR : actRest xs = (tl (tl (tl xs))) := by simp [actRest, actNode, actNum, actText, actCrash, hk]
  rw [hE, hR]
  have hB0 := h.byte
  have hB1 : ∀ x ∈ tl xs, 0 ≤ x ∧ x ≤ 255 := fun x hx => hB0 x (List.mem_of_mem_tail hx)
  obtain ⟨p0, p1⟩ := head_byte hB0
  obtain ⟨q0, q1⟩ := head_byte hB1
  have hk2 : hd xs % 9 = 8 := hk
  rw [← tmod_small p0] at hk
  clear hB0 hB1 hE hR
  unfold ActPost
  go_enter Tryd.func18, Tryd.ntmps18
  go_wp2_with fail
  refine (byte_any B g xs _ (h.below (below_alloc (Below.refl _ _) _))).mono ?_
  rintro e w1 ⟨rfl, h1, g1⟩
  have H : Aside0 (AS z w1 B g z.heap.size 26 (tl xs) #[.int .u8 0, .int .u8 0, .int .i64 0, .string ⟨#[]⟩, .slice none 0 0, .slice none 0 0]) :=
    ⟨⟨h1, blk_grown (blk_new _ _) g1 (by have := h.lt; intro e; injection e; omega), grown_trans (gr_alloc (grown_refl _ _) _) g1, h.lt, Nat.le_refl _⟩⟩
  clear h1 g1 h
  have c0 := H.out.cell 0 (v := .int .u8 0) rfl
  have f0 := H.out.free 0
  go_wp2_with fail
  have n0_ := Aside0.mk (H.out.set 0 (.int .u8 9) (cs' := #[.int .u8 9, .int .u8 0, .int .i64 0, .string ⟨#[]⟩, .slice none 0 0, .slice none 0 0]) rfl)
  clear H c0 f0
  have H := n0_
  clear n0_
  generalize World.setCell _ _ _ = ws at H ⊢
  refine (takes_9 _).mono ?_
  rintro e w2 ⟨rfl, rfl⟩
  go_wp2_with fail
  refine (byte_any B g (tl xs) _ H.out.rd).mono ?_
  rintro e w3 ⟨rfl, hr1, hg1⟩
  have n0_ := Aside0.mk (H.out.call hr1 hg1)
  clear H hr1 hg1
  have H := n0_
  clear n0_
  have q2 := tmod_small q0 32
  have c1 := H.out.cell 1 (v := .int .u8 0) rfl
  have f1 := H.out.free 1
  go_wp2_with fail
  have n0_ := Aside0.mk (H.out.set 1 (.int .u8 (hd (tl xs) % 32)) (cs' := #[.int .u8 9, .int .u8 (hd (tl xs) % 32), .int .i64 0, .string ⟨#[]⟩, .slice none 0 0, .slice none 0 0]) rfl)
  clear H c1 f1
  have H := n0_
  clear n0_
  generalize World.setCell _ _ _ = ws at H ⊢
  refine (byte_any B g (tl (tl xs)) _ H.out.rd).mono ?_
  rintro e w4 ⟨rfl, hr1, hg1⟩
  have n0_ := Aside0.mk (H.out.call hr1 hg1)
  clear H hr1 hg1
  have H := n0_
  clear n0_
  have c0 := H.out.cell 0 (v := .int .u8 9) rfl
  have f0 := H.out.free 0
  have c1 := H.out.cell 1 (v := .int .u8 (hd (tl xs) % 32)) rfl
  have f1 := H.out.free 1
  have c2 := H.out.cell 2 (v := .int .i64 0) rfl
  have f2 := H.out.free 2
  have c3 := H.out.cell 3 (v := .string ⟨#[]⟩) rfl
  have f3 := H.out.free 3
  have c4 := H.out.cell 4 (v := .slice none 0 0) rfl
  have f4 := H.out.free 4
  have c5 := H.out.cell 5 (v := .slice none 0 0) rfl
  have f5 := H.out.free 5
  go_wp2
  have HE := (((((((H.out.set 2 (.int .i64 (hd (tl (tl xs)))) (cs' := #[.int .u8 9, .int .u8 (hd (tl xs) % 32), .int .i64 (hd (tl (tl xs))), .string ⟨#[]⟩, .slice none 0 0, .slice none 0 0]) rfl).set 0 (.int .u8 9) (cs' := #[.int .u8 9, .int .u8 (hd (tl xs) % 32), .int .i64 (hd (tl (tl xs))), .string ⟨#[]⟩, .slice none 0 0, .slice none 0 0]) rfl).set 1 (.int .u8 (hd (tl xs) % 32)) (cs' := #[.int .u8 9, .int .u8 (hd (tl xs) % 32), .int .i64 (hd (tl (tl xs))), .string ⟨#[]⟩, .slice none 0 0, .slice none 0 0]) rfl).set 2 (.int .i64 (hd (tl (tl xs)))) (cs' := #[.int .u8 9, .int .u8 (hd (tl xs) % 32), .int .i64 (hd (tl (tl xs))), .string ⟨#[]⟩, .slice none 0 0, .slice none 0 0]) rfl).set 3 (.string ⟨#[]⟩) (cs' := #[.int .u8 9, .int .u8 (hd (tl xs) % 32), .int .i64 (hd (tl (tl xs))), .string ⟨#[]⟩, .slice none 0 0, .slice none 0 0]) rfl).set 4 (.slice none 0 0) (cs' := #[.int .u8 9, .int .u8 (hd (tl xs) % 32), .int .i64 (hd (tl (tl xs))), .string ⟨#[]⟩, .slice none 0 0, .slice none 0 0]) rfl).set 5 (.slice none 0 0) (cs' := #[.int .u8 9, .int .u8 (hd (tl xs) % 32), .int .i64 (hd (tl (tl xs))), .string ⟨#[]⟩, .slice none 0 0, .slice none 0 0]) rfl)
  refine bodyPost_ret (v := .agg #[.int .u8 9, .int .u8 (hd (tl xs) % 32), .int .i64 (hd (tl (tl xs))), .string ⟨#[]⟩, .slice none 0 0, .slice none 0 0]) ?_ rfl ⟨_, _, rfl, (Kd.R_nil _ _ _ _ _), (Kd.R_nil _ _ _ _ _), HE.rd, HE.fr⟩
  exact results_single rfl (.cell z.heap.size 26 #[.int .u8 9, .int .u8 (hd (tl xs) % 32), .int .i64 (hd (tl (tl xs))), .string ⟨#[]⟩, .slice none 0 0, .slice none 0 0] (0, 0) _ rfl HE.blk Tryd.underlying26 rfl (by kernel_rfl) .nil)

theorem act_any (B g : Nat) (xs : List Int) (z : World) (h : Rd z B g xs) :
    Calls Tryd.prog 18 #[.pointer (some ⟨g, 0, none⟩)] z (ActPost z B g (actOf xs) (actRest xs)) := by
  have h9 : hd xs % 9 = 0 ∨ hd xs % 9 = 1 ∨ hd xs % 9 = 2 ∨ hd xs % 9 = 3 ∨ hd xs % 9 = 4 ∨ hd xs % 9 = 5 ∨ hd xs % 9 = 6 ∨ hd xs % 9 = 7 ∨ hd xs % 9 = 8 := by omega
  rcases h9 with h9 | h9 | h9 | h9 | h9 | h9 | h9 | h9 | h9
  · exact act_1 B g xs z h h9
  · exact act_2 B g xs z h h9
  · exact act_3 B g xs z h h9
  · exact act_4 B g xs z h h9
  · exact act_5 B g xs z h h9
  · exact act_6 B g xs z h h9
  · exact act_7 B g xs z h h9
  · exact act_8 B g xs z h h9
  · exact act_9 B g xs z h h9

#print axioms act_any
end Go.Proofs.YtahfcdlggaoakaaDoor.Rd

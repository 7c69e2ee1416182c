/- ScriptKnown: the fourteen acts that are not plain, as its region of 27 operations lays them in whatever order. -/
import Derived.Test.YtahfcdlggaoakaaDoorKnownA
import Derived.Great.BuildSlice
namespace Go.Proofs.YtahfcdlggaoakaaDoor.Rd
open Go.RowKit Go.Proofs.YtahfcdlggaoakaaDoorW.PrintWords Go.Proofs.YtahfcdlggaoakaaDoorW.PrintLast Go.Proofs.YtahfcdlggaoakaaDoorW.PrintMore
open Go.Proofs.YtahfcdlggaoakaaDoor.PScriptDecodes
set_option linter.unusedVariables false
set_option linter.unusedSimpArgs false

/-- A value that is an act. -/
def AV (w : World) (v : Value) (s : S26) : Prop := ∃ A4 c4 A5 c5, v = .agg #[.int .u8 s.f0, .int .u8 s.f1, .int .i64 s.f2, .string s.f3, .slice A4 s.f4.f0.length c4, .slice A5 s.f4.f1.length c5] ∧
  s.f4.f0.length ≤ c4 ∧ (Kd.int .i64).C w A4 s.f4.f0.length s.f4.f0 ∧ s.f4.f1.length ≤ c5 ∧ (Kd.int .i64).C w A5 s.f4.f1.length s.f4.f1
/-- A value that is a slice of the numbers xs. -/
def NV (k : IntKind) (w : World) (v : Value) (xs : List Int) : Prop := ∃ A, v = .slice A xs.length xs.length ∧ (Kd.int k).C w A xs.length xs
def CV (w : World) (v : Value) (xs ys : List Int) : Prop := ∃ A c B d, v = .agg #[.slice A xs.length c, .slice B ys.length d] ∧ xs.length ≤ c ∧ (Kd.int .i64).C w A xs.length xs ∧ ys.length ≤ d ∧ (Kd.int .i64).C w B ys.length ys
theorem AV_below {w w' : World} {v s} (h : AV w v s) (hb : Below w.heap.size w w') : AV w' v s := by
  obtain ⟨A4, c4, A5, c5, e, l4, g4, l5, g5⟩ := h
  exact ⟨A4, c4, A5, c5, e, l4, Kd.C_below g4 hb, l5, Kd.C_below g5 hb⟩
theorem NV_below {k} {w w' : World} {v s} (h : NV k w v s) (hb : Below w.heap.size w w') : NV k w' v s := by
  obtain ⟨A4, e, g4⟩ := h
  exact ⟨A4, e, Kd.C_below g4 hb⟩
theorem CV_below {w w' : World} {v s t} (h : CV w v s t) (hb : Below w.heap.size w w') : CV w' v s t := by
  obtain ⟨A4, c4, A5, c5, e, l4, g4, l5, g5⟩ := h
  exact ⟨A4, c4, A5, c5, e, l4, Kd.C_below g4 hb, l5, Kd.C_below g5 hb⟩

def noB : ByteArray := ⟨#[]⟩
def act3 (k n m : Int) : S26 := ⟨k, n, m, noB, ⟨[], []⟩⟩
def zeros65536 : List Int := List.replicate 65536 0
/-- The fourteen. -/
def badActs (t : ByteArray) : List S26 := [act3 0 0 0, act3 10 0 0, act3 8 6 0, act3 8 0 0, ⟨2, 0, 0, ⟨#[120]⟩, ⟨[], []⟩⟩, act3 2 1 0, act3 3 0 256, act3 3 0 (-1), act3 1 1 1, act3 9 32 0,
  ⟨7, 1, 0, noB, ⟨[1], []⟩⟩, ⟨7, 1, 0, noB, ⟨[0,0,0,0,0,0,0,0], [0,0,0,0,0,0,0,0]⟩⟩, ⟨5, 1, 0, noB, ⟨[1], [1]⟩⟩, ⟨1, 1, 0, t, ⟨[], []⟩⟩]
def PrB (i : Nat) (v : Value) (w : World) : Prop :=
  match i with
  | 0 => AV w v (act3 0 0 0)
  | 1 => AV w v (act3 10 0 0)
  | 2 => AV w v (act3 8 6 0)
  | 3 => AV w v (act3 8 0 0)
  | 4 => AV w v ⟨2, 0, 0, ⟨#[120]⟩, ⟨[], []⟩⟩
  | 5 => AV w v (act3 2 1 0)
  | 6 => AV w v (act3 3 0 256)
  | 7 => AV w v (act3 3 0 (-1))
  | 8 => AV w v (act3 1 1 1)
  | 9 => AV w v (act3 9 32 0)
  | 10 => NV .i64 w v [1]
  | 11 => CV w v [1] []
  | 12 => AV w v ⟨7, 1, 0, noB, ⟨[1], []⟩⟩
  | 13 => NV .i64 w v [0,0,0,0,0,0,0,0]
  | 14 => NV .i64 w v [0,0,0,0,0,0,0,0]
  | 15 => CV w v [0,0,0,0,0,0,0,0] [0,0,0,0,0,0,0,0]
  | 16 => AV w v ⟨7, 1, 0, noB, ⟨[0,0,0,0,0,0,0,0], [0,0,0,0,0,0,0,0]⟩⟩
  | 17 => NV .i64 w v [1]
  | 18 => NV .i64 w v [1]
  | 19 => CV w v [1] [1]
  | 20 => AV w v ⟨5, 1, 0, noB, ⟨[1], [1]⟩⟩
  | 21 => NV .u8 w v zeros65536
  | 22 => ∃ t : ByteArray, v = .string t ∧ t.size = 65536
  | 23 => ∃ t : ByteArray, t.size = 65536 ∧ AV w v ⟨1, 1, 0, t, ⟨[], []⟩⟩
  | 24 => ∃ t : ByteArray, t.size = 65536 ∧ ∃ A, v = .slice A 14 14 ∧ Kd.C k26 w A 14 (badActs t)
  | 25 => v = .int .i64 14
  | 26 => v = .int .i64 0
  | _ => True
theorem PrB_stable (i : Nat) (v : Value) (w w' : World) (h : PrB i v w) (hb : Below w.heap.size w w') : PrB i v w' := by
  unfold PrB at *
  split at h <;> first | exact AV_below h hb | exact NV_below h hb | exact CV_below h hb | exact h | skip
  · obtain ⟨t, ht, h⟩ := h; exact ⟨t, ht, AV_below h hb⟩
  · obtain ⟨t, ht, A, e, h⟩ := h; exact ⟨t, ht, A, e, Kd.C_below h hb⟩
def TK : Bool × List (List Nat × List Nat) := (true,
  [([], []), ([], []), ([], []), ([], []), ([], []), ([], []), ([], []), ([], []), ([], []), ([], []), ([], []),
    ([10], [10]), ([11], [11]), ([], []), ([], []), ([13, 14], [13, 14]), ([15], [15]), ([], []), ([], []),
    ([17, 18], [17, 18]), ([19], [19]), ([], []), ([21], [21]), ([22], [22]),
    ([0, 1, 2, 3, 4, 5, 6, 7, 8, 9, 12, 16, 20, 23], [0, 1, 2, 3, 4, 5, 6, 7, 8, 9, 12, 16, 20, 23]), ([24], [24]),
    ([], [])])
theorem tabK : rtab .any (opsOf Tryd.f3 9) = TK := by kernel_rfl
def slK : List Nat := [76, 77, 78, 79, 80, 81, 82, 83, 84, 85, 86, 87, 88, 89, 90, 91, 92, 93, 94, 95, 96, 97, 98, 99, 100, 101, 102]

theorem nilI (w : World) : (Kd.int .i64).C w none ([] : List Int).length [] := nil_int w
theorem run_b {a : Act} {o : Oper} {w : World} (t : TypeId) (parts : Array (Nat × Operand)) (cells : Array Value) (ho : o.op = .build t parts) (h : Tryd.prog.built t (parts.map fun (i, x) => (i, a.eval x)).toList = some cells) :
    (execOp a.eval o).run Tryd.prog w = .ok (.value (.agg cells)) w := by
  unfold execOp
  simp only [ho, Sem.run_bind, run_build w t _ cells h, Result.andThen_ok]
  rfl
theorem run_bs {a : Act} {o : Oper} {w : World} (t e : TypeId) (len : Nat) (parts : Array (Nat × Operand)) (ho : o.op = .buildSlice t len parts)
    (cells : Array Value) (ie : TypeInfo) (z : Value)
    (hu : Tryd.prog.underlying t = some (.slice e)) (hie : Tryd.prog.info? e = some ie) (hz : ie.zero = some z) (hsmall : ¬ len * ie.size > 2 ^ 24) (hpos : ¬ len * ie.size = 0)
    (hf : Instr.fill (fun i => some (i * ie.size, ie.size)) ((Array.range (len * ie.size)).map (z.cells[· % z.cells.size]!)) (parts.map fun (i, x) => (i, a.eval x)).toList = some cells) :
    (execOp a.eval o).run Tryd.prog w = .ok (.value (.slice (some ⟨w.heap.size, 0, none⟩) len len)) (w.alloc (.cells cells e)) := by
  unfold execOp
  simp only [ho, Sem.run_bind, run_buildSlice w t e len _ cells ie z hu hie hz hsmall hpos hf, Result.andThen_ok]
  rfl
theorem info22e : (Tryd.prog.info? 3).map (fun i => (i.zero, i.size, i.bytes)) = some (some (.int .i64 0), 1, 8) := by kernel_rfl
theorem info5e : (Tryd.prog.info? 5).map (fun i => (i.zero, i.size, i.bytes)) = some (some (.int .u8 0), 1, 1) := by kernel_rfl
theorem u8_C {w : World} {A : Option Addr} {n : Nat} {xs : List Int} (h : ReadsInt w .u8 A n xs) : (Kd.int .u8).C w A n xs := Kd.C_of_reads (enc := Value.int .u8) (d := (0 : Int)) (h1 := fun _ => rfl) h
theorem len_z : zeros65536.length = 65536 := by unfold zeros65536; exact List.length_replicate
theorem len_str (xs : List Int) : (strOfNums xs).size = xs.length := strOfNums_size xs
theorem run_bv {a : Act} {o : Oper} {w : World} (t : TypeId) (parts : Array (Nat × Operand)) (vs : List (Nat × Value)) (cells : Array Value) (ho : o.op = .build t parts) (hv : (parts.toList.map fun (i, x) => (i, a.eval x)) = vs) (h : Tryd.prog.built t vs = some cells) :
    (execOp a.eval o).run Tryd.prog w = .ok (.value (.agg cells)) w := run_b t parts cells ho (by rw [Array.toList_map, hv]; exact h)
theorem run_bsv {a : Act} {o : Oper} {w : World} (t e : TypeId) (len : Nat) (parts : Array (Nat × Operand)) (vs : List (Nat × Value)) (ho : o.op = .buildSlice t len parts)
    (cells : Array Value) (ie : TypeInfo) (z : Value)
    (hu : Tryd.prog.underlying t = some (.slice e)) (hie : Tryd.prog.info? e = some ie) (hz : ie.zero = some z) (hsmall : ¬ len * ie.size > 2 ^ 24) (hpos : ¬ len * ie.size = 0)
    (hv : (parts.toList.map fun (i, x) => (i, a.eval x)) = vs)
    (hf : Instr.fill (fun i => some (i * ie.size, ie.size)) ((Array.range (len * ie.size)).map (z.cells[· % z.cells.size]!)) vs = some cells) :
    (execOp a.eval o).run Tryd.prog w = .ok (.value (.slice (some ⟨w.heap.size, 0, none⟩) len len)) (w.alloc (.cells cells e)) := run_bs t e len parts ho cells ie z hu hie hz hsmall hpos (by rw [Array.toList_map, hv]; exact hf)
theorem run_ms8 {a : Act} {o : Oper} (w : World) (ho : o.op = .makeSlice 22 (.const (.int .i64 8)) (.const (.int .i64 8))) :
    (execOp a.eval o).run Tryd.prog w = .ok (.value (.slice (some ⟨w.heap.size, 0, none⟩) 8 8)) (w.alloc (.cells (madeCells #[.int .i64 0] 8) 3)) := by
  have h := print_make (P := Tryd.prog) 22 3 .i64 8 Tryd.underlying22 info22e (by decide) 8 (by decide) w
  unfold execOp
  simp only [ho, Act.eval, Sem.run_bind]
  rw [show (8 : Int) = ((8 : Nat) : Int) from rfl, h]
  rfl
theorem run_msB {a : Act} {o : Oper} (w : World) (ho : o.op = .makeSlice 29 (.const (.int .i64 65536)) (.const (.int .i64 65536))) :
    (execOp a.eval o).run Tryd.prog w = .ok (.value (.slice (some ⟨w.heap.size, 0, none⟩) 65536 65536)) (w.alloc (.cells (madeCells #[.int .u8 0] 65536) 5)) := by
  have h := print_make (P := Tryd.prog) 29 5 .u8 1 Tryd.underlying29 info5e (by decide) 65536 (by decide) w
  unfold execOp
  simp only [ho, Act.eval, Sem.run_bind]
  rw [show (65536 : Int) = ((65536 : Nat) : Int) from rfl, h]
  rfl
theorem run_cv {a : Act} {w : World} {v : Value} {t : ByteArray} (h : (convert 29 9 v).run Tryd.prog w = .ok (.string t) w) (hA : a.tmps.getD 97 undef = v) :
    (execOp a.eval (opsOf Tryd.f3 9)[22]!).run Tryd.prog w = .ok (.value (.string t)) w := by
  subst hA
  have ho : (opsOf Tryd.f3 9)[22]!.op = .convert 29 9 (.tmp 97) := rfl
  unfold execOp
  simp only [ho, Act.eval, Sem.run_bind, h]
  rfl
theorem run_len {a : Act} {w : World} {A : Option Addr} {n c : Nat} (h : a.tmps.getD 100 undef = .slice A n c) :
    (execOp a.eval (opsOf Tryd.f3 9)[25]!).run Tryd.prog w = .ok (.value (.int .i64 n)) w := by
  have e : a.eval (.tmp 100) = .slice A n c := h
  have he : Tryd.prog.elem 27 = 26 := by simp [Program.elem, Tryd.underlying27]
  have hl := run_len_slice (P := Tryd.prog) (w := w) 27 3 A n c (by rw [he]; exact Tryd.underlying27)
  have ho : execOp a.eval (opsOf Tryd.f3 9)[25]! = builtin .len #[27] 3 (#[Operand.tmp 100].map fun | .const _ => true | _ => false) (#[Operand.tmp 100].map a.eval) := rfl
  rw [ho]
  simp only [List.map_toArray, List.map, e, BigFrame.builtin_len, Sem.run_bind, hl, Result.andThen_ok]
  rfl
/-- Rows of cells, one for each element. -/
inductive RowsOf {α : Type} (R : α → List Value → Prop) (sz : Nat) : List (List Value) → List α → Prop
  | nil : RowsOf R sz [] []
  | cons {c cs x xs} (h : c.length = sz ∧ R x c) (t : RowsOf R sz cs xs) : RowsOf R sz (c :: cs) (x :: xs)
theorem RowsOf.get {α : Type} {R : α → List Value → Prop} {sz : Nat} {cs : List (List Value)} {xs : List α} (h : RowsOf R sz cs xs) : ∀ j p, xs[j]? = some p → ∃ c, c.length = sz ∧ R p c ∧ ∀ i u, c[i]? = some u → (cs.flatten)[j * sz + i]? = some u := by
  induction h with
  | nil => intro j p hj; simp at hj
  | @cons c cs x xs h t ih =>
    intro j p hj
    cases j with
    | zero =>
      simp only [List.getElem?_cons_zero, Option.some.injEq] at hj
      subst hj
      refine ⟨c, h.1, h.2, fun i u hi => ?_⟩
      have hlt : i < c.length := by
        rcases Nat.lt_or_ge i c.length with h | h
        · exact h
        · rw [List.getElem?_eq_none h] at hi; cases hi
      simp only [List.flatten_cons, Nat.zero_mul, Nat.zero_add]
      rw [List.getElem?_append_left hlt]
      exact hi
    | succ j =>
      obtain ⟨c', h1, h2, h3⟩ := ih j p (by simpa using hj)
      refine ⟨c', h1, h2, fun i u hi => ?_⟩
      simp only [List.flatten_cons]
      rw [List.getElem?_append_right (by rw [h.1, Nat.succ_mul]; omega), h.1, show (j + 1) * sz + i - sz = j * sz + i by rw [Nat.succ_mul]; omega]
      exact h3 i u hi
theorem C_rows {w w' : World} {g n e : Nat} {fr : Nat × Nat} {cs : List (List Value)} {cells : Array Value} {l : List S26} (h : RowsOf (k26.K w) 6 cs l) (hg : w'.heap[g]? = some (.cells cells e fr)) (hc : cells.toList = cs.flatten) (hn : l.length = n) (hn2 : n ≤ 9223372036854775807) (hb : Below w.heap.size w w') :
    Kd.C k26 w' (some ⟨g, 0, none⟩) n l := by
  refine ⟨hn, hn2, fun _ => ⟨_, rfl, fun j p hj => ?_⟩⟩
  obtain ⟨c, h1, h2, h3⟩ := h.get j p hj
  refine ⟨c, h1, k26.K_below hb h2, fun i u hi => ?_⟩
  rw [add_plain, cell_of_row w' g _ _ _ _ hg]
  have := h3 i u hi
  rw [← hc] at this
  have e6 : k26.sz = 6 := rfl
  rw [e6]
  simpa using this
theorem kst0 (a : Act) (w : World) (o : Oper) (ho : (opsOf Tryd.f3 9)[0]? = some o) (hv : ∀ j ∈ (TK.2.getD 0 ([], [])).1, PrB j (a.tmps.getD (slK.getD j 0) undef) w) : ∃ v w', (execOp a.eval o).run Tryd.prog w = .ok (.value v) w' ∧ Below w.heap.size w w' ∧ PrB 0 v w' := by
  injection ho with ho
  subst ho
  exact ⟨_, w, run_b 26 _ #[.int .u8 0, .int .u8 0, .int .i64 0, .string ⟨#[]⟩, .slice none 0 0, .slice none 0 0] rfl (by kernel_rfl), Below.refl _ _, none, 0, none, 0, rfl, Nat.le_refl _, nilI w, Nat.le_refl _, nilI w⟩
theorem kst1 (a : Act) (w : World) (o : Oper) (ho : (opsOf Tryd.f3 9)[1]? = some o) (hv : ∀ j ∈ (TK.2.getD 1 ([], [])).1, PrB j (a.tmps.getD (slK.getD j 0) undef) w) : ∃ v w', (execOp a.eval o).run Tryd.prog w = .ok (.value v) w' ∧ Below w.heap.size w w' ∧ PrB 1 v w' := by
  injection ho with ho
  subst ho
  exact ⟨_, w, run_b 26 _ #[.int .u8 10, .int .u8 0, .int .i64 0, .string ⟨#[]⟩, .slice none 0 0, .slice none 0 0] rfl (by kernel_rfl), Below.refl _ _, none, 0, none, 0, rfl, Nat.le_refl _, nilI w, Nat.le_refl _, nilI w⟩
theorem kst2 (a : Act) (w : World) (o : Oper) (ho : (opsOf Tryd.f3 9)[2]? = some o) (hv : ∀ j ∈ (TK.2.getD 2 ([], [])).1, PrB j (a.tmps.getD (slK.getD j 0) undef) w) : ∃ v w', (execOp a.eval o).run Tryd.prog w = .ok (.value v) w' ∧ Below w.heap.size w w' ∧ PrB 2 v w' := by
  injection ho with ho
  subst ho
  exact ⟨_, w, run_b 26 _ #[.int .u8 8, .int .u8 6, .int .i64 0, .string ⟨#[]⟩, .slice none 0 0, .slice none 0 0] rfl (by kernel_rfl), Below.refl _ _, none, 0, none, 0, rfl, Nat.le_refl _, nilI w, Nat.le_refl _, nilI w⟩
theorem kst3 (a : Act) (w : World) (o : Oper) (ho : (opsOf Tryd.f3 9)[3]? = some o) (hv : ∀ j ∈ (TK.2.getD 3 ([], [])).1, PrB j (a.tmps.getD (slK.getD j 0) undef) w) : ∃ v w', (execOp a.eval o).run Tryd.prog w = .ok (.value v) w' ∧ Below w.heap.size w w' ∧ PrB 3 v w' := by
  injection ho with ho
  subst ho
  exact ⟨_, w, run_b 26 _ #[.int .u8 8, .int .u8 0, .int .i64 0, .string ⟨#[]⟩, .slice none 0 0, .slice none 0 0] rfl (by kernel_rfl), Below.refl _ _, none, 0, none, 0, rfl, Nat.le_refl _, nilI w, Nat.le_refl _, nilI w⟩
theorem kst4 (a : Act) (w : World) (o : Oper) (ho : (opsOf Tryd.f3 9)[4]? = some o) (hv : ∀ j ∈ (TK.2.getD 4 ([], [])).1, PrB j (a.tmps.getD (slK.getD j 0) undef) w) : ∃ v w', (execOp a.eval o).run Tryd.prog w = .ok (.value v) w' ∧ Below w.heap.size w w' ∧ PrB 4 v w' := by
  injection ho with ho
  subst ho
  exact ⟨_, w, run_b 26 _ #[.int .u8 2, .int .u8 0, .int .i64 0, .string ⟨#[120]⟩, .slice none 0 0, .slice none 0 0] rfl (by kernel_rfl), Below.refl _ _, none, 0, none, 0, rfl, Nat.le_refl _, nilI w, Nat.le_refl _, nilI w⟩
theorem kst5 (a : Act) (w : World) (o : Oper) (ho : (opsOf Tryd.f3 9)[5]? = some o) (hv : ∀ j ∈ (TK.2.getD 5 ([], [])).1, PrB j (a.tmps.getD (slK.getD j 0) undef) w) : ∃ v w', (execOp a.eval o).run Tryd.prog w = .ok (.value v) w' ∧ Below w.heap.size w w' ∧ PrB 5 v w' := by
  injection ho with ho
  subst ho
  exact ⟨_, w, run_b 26 _ #[.int .u8 2, .int .u8 1, .int .i64 0, .string ⟨#[]⟩, .slice none 0 0, .slice none 0 0] rfl (by kernel_rfl), Below.refl _ _, none, 0, none, 0, rfl, Nat.le_refl _, nilI w, Nat.le_refl _, nilI w⟩
theorem kst6 (a : Act) (w : World) (o : Oper) (ho : (opsOf Tryd.f3 9)[6]? = some o) (hv : ∀ j ∈ (TK.2.getD 6 ([], [])).1, PrB j (a.tmps.getD (slK.getD j 0) undef) w) : ∃ v w', (execOp a.eval o).run Tryd.prog w = .ok (.value v) w' ∧ Below w.heap.size w w' ∧ PrB 6 v w' := by
  injection ho with ho
  subst ho
  exact ⟨_, w, run_b 26 _ #[.int .u8 3, .int .u8 0, .int .i64 256, .string ⟨#[]⟩, .slice none 0 0, .slice none 0 0] rfl (by kernel_rfl), Below.refl _ _, none, 0, none, 0, rfl, Nat.le_refl _, nilI w, Nat.le_refl _, nilI w⟩
theorem kst7 (a : Act) (w : World) (o : Oper) (ho : (opsOf Tryd.f3 9)[7]? = some o) (hv : ∀ j ∈ (TK.2.getD 7 ([], [])).1, PrB j (a.tmps.getD (slK.getD j 0) undef) w) : ∃ v w', (execOp a.eval o).run Tryd.prog w = .ok (.value v) w' ∧ Below w.heap.size w w' ∧ PrB 7 v w' := by
  injection ho with ho
  subst ho
  exact ⟨_, w, run_b 26 _ #[.int .u8 3, .int .u8 0, .int .i64 (-1), .string ⟨#[]⟩, .slice none 0 0, .slice none 0 0] rfl (by kernel_rfl), Below.refl _ _, none, 0, none, 0, rfl, Nat.le_refl _, nilI w, Nat.le_refl _, nilI w⟩
theorem kst8 (a : Act) (w : World) (o : Oper) (ho : (opsOf Tryd.f3 9)[8]? = some o) (hv : ∀ j ∈ (TK.2.getD 8 ([], [])).1, PrB j (a.tmps.getD (slK.getD j 0) undef) w) : ∃ v w', (execOp a.eval o).run Tryd.prog w = .ok (.value v) w' ∧ Below w.heap.size w w' ∧ PrB 8 v w' := by
  injection ho with ho
  subst ho
  exact ⟨_, w, run_b 26 _ #[.int .u8 1, .int .u8 1, .int .i64 1, .string ⟨#[]⟩, .slice none 0 0, .slice none 0 0] rfl (by kernel_rfl), Below.refl _ _, none, 0, none, 0, rfl, Nat.le_refl _, nilI w, Nat.le_refl _, nilI w⟩
theorem kst9 (a : Act) (w : World) (o : Oper) (ho : (opsOf Tryd.f3 9)[9]? = some o) (hv : ∀ j ∈ (TK.2.getD 9 ([], [])).1, PrB j (a.tmps.getD (slK.getD j 0) undef) w) : ∃ v w', (execOp a.eval o).run Tryd.prog w = .ok (.value v) w' ∧ Below w.heap.size w w' ∧ PrB 9 v w' := by
  injection ho with ho
  subst ho
  exact ⟨_, w, run_b 26 _ #[.int .u8 9, .int .u8 32, .int .i64 0, .string ⟨#[]⟩, .slice none 0 0, .slice none 0 0] rfl (by kernel_rfl), Below.refl _ _, none, 0, none, 0, rfl, Nat.le_refl _, nilI w, Nat.le_refl _, nilI w⟩
theorem kst10 (a : Act) (w : World) (o : Oper) (ho : (opsOf Tryd.f3 9)[10]? = some o) (hv : ∀ j ∈ (TK.2.getD 10 ([], [])).1, PrB j (a.tmps.getD (slK.getD j 0) undef) w) : ∃ v w', (execOp a.eval o).run Tryd.prog w = .ok (.value v) w' ∧ Below w.heap.size w w' ∧ PrB 10 v w' := by
  injection ho with ho
  subst ho
  obtain ⟨i3, hi, hz0, hz1, hz2⟩ := info_parts info22e
  exact ⟨_, _, run_bs 22 3 1 _ rfl #[.int .i64 1] i3 (.int .i64 0) Tryd.underlying22 hi hz0 (by rw [hz1]; decide) (by rw [hz1]; decide) (by rw [hz1]; kernel_rfl), below_alloc (Below.refl _ _) _, _, rfl, int_C (reads_blk (k := .i64) (xs := [1]) (blk_new w _) (by decide))⟩
theorem kst17 (a : Act) (w : World) (o : Oper) (ho : (opsOf Tryd.f3 9)[17]? = some o) (hv : ∀ j ∈ (TK.2.getD 17 ([], [])).1, PrB j (a.tmps.getD (slK.getD j 0) undef) w) : ∃ v w', (execOp a.eval o).run Tryd.prog w = .ok (.value v) w' ∧ Below w.heap.size w w' ∧ PrB 17 v w' := by
  injection ho with ho
  subst ho
  obtain ⟨i3, hi, hz0, hz1, hz2⟩ := info_parts info22e
  exact ⟨_, _, run_bs 22 3 1 _ rfl #[.int .i64 1] i3 (.int .i64 0) Tryd.underlying22 hi hz0 (by rw [hz1]; decide) (by rw [hz1]; decide) (by rw [hz1]; kernel_rfl), below_alloc (Below.refl _ _) _, _, rfl, int_C (reads_blk (k := .i64) (xs := [1]) (blk_new w _) (by decide))⟩
theorem kst18 (a : Act) (w : World) (o : Oper) (ho : (opsOf Tryd.f3 9)[18]? = some o) (hv : ∀ j ∈ (TK.2.getD 18 ([], [])).1, PrB j (a.tmps.getD (slK.getD j 0) undef) w) : ∃ v w', (execOp a.eval o).run Tryd.prog w = .ok (.value v) w' ∧ Below w.heap.size w w' ∧ PrB 18 v w' := by
  injection ho with ho
  subst ho
  obtain ⟨i3, hi, hz0, hz1, hz2⟩ := info_parts info22e
  exact ⟨_, _, run_bs 22 3 1 _ rfl #[.int .i64 1] i3 (.int .i64 0) Tryd.underlying22 hi hz0 (by rw [hz1]; decide) (by rw [hz1]; decide) (by rw [hz1]; kernel_rfl), below_alloc (Below.refl _ _) _, _, rfl, int_C (reads_blk (k := .i64) (xs := [1]) (blk_new w _) (by decide))⟩
theorem kst13 (a : Act) (w : World) (o : Oper) (ho : (opsOf Tryd.f3 9)[13]? = some o) (hv : ∀ j ∈ (TK.2.getD 13 ([], [])).1, PrB j (a.tmps.getD (slK.getD j 0) undef) w) : ∃ v w', (execOp a.eval o).run Tryd.prog w = .ok (.value v) w' ∧ Below w.heap.size w w' ∧ PrB 13 v w' := by
  injection ho with ho
  subst ho
  exact ⟨_, _, run_ms8 w rfl, below_alloc (Below.refl _ _) _, _, rfl, int_C (own_reads' (own_made w 0 3 .i64 8 (Nat.zero_le _) (by decide)))⟩
theorem kst14 (a : Act) (w : World) (o : Oper) (ho : (opsOf Tryd.f3 9)[14]? = some o) (hv : ∀ j ∈ (TK.2.getD 14 ([], [])).1, PrB j (a.tmps.getD (slK.getD j 0) undef) w) : ∃ v w', (execOp a.eval o).run Tryd.prog w = .ok (.value v) w' ∧ Below w.heap.size w w' ∧ PrB 14 v w' := by
  injection ho with ho
  subst ho
  exact ⟨_, _, run_ms8 w rfl, below_alloc (Below.refl _ _) _, _, rfl, int_C (own_reads' (own_made w 0 3 .i64 8 (Nat.zero_le _) (by decide)))⟩
theorem kst21 (a : Act) (w : World) (o : Oper) (ho : (opsOf Tryd.f3 9)[21]? = some o) (hv : ∀ j ∈ (TK.2.getD 21 ([], [])).1, PrB j (a.tmps.getD (slK.getD j 0) undef) w) : ∃ v w', (execOp a.eval o).run Tryd.prog w = .ok (.value v) w' ∧ Below w.heap.size w w' ∧ PrB 21 v w' := by
  injection ho with ho
  subst ho
  exact ⟨_, _, run_msB w rfl, below_alloc (Below.refl _ _) _, some ⟨w.heap.size, 0, none⟩, by rw [len_z], by rw [len_z]; exact u8_C (own_reads' (own_made w 0 5 .u8 65536 (Nat.zero_le _) (by decide)))⟩
theorem kst11 (a : Act) (w : World) (o : Oper) (ho : (opsOf Tryd.f3 9)[11]? = some o) (hv : ∀ j ∈ (TK.2.getD 11 ([], [])).1, PrB j (a.tmps.getD (slK.getD j 0) undef) w) : ∃ v w', (execOp a.eval o).run Tryd.prog w = .ok (.value v) w' ∧ Below w.heap.size w w' ∧ PrB 11 v w' := by
  injection ho with ho
  subst ho
  obtain ⟨A, hA, hC⟩ := hv 10 (by decide)
  exact ⟨_, w, run_bv 24 _ [(0, .slice A 1 1)] #[.slice A 1 1, .slice none 0 0] rfl (by show [(0, a.tmps.getD 86 undef)] = _; rw [show a.tmps.getD 86 undef = .slice A 1 1 from hA]) (by kernel_rfl), Below.refl _ _, A, 1, none, 0, rfl, Nat.le_refl _, hC, Nat.le_refl _, nilI w⟩
theorem kst15 (a : Act) (w : World) (o : Oper) (ho : (opsOf Tryd.f3 9)[15]? = some o) (hv : ∀ j ∈ (TK.2.getD 15 ([], [])).1, PrB j (a.tmps.getD (slK.getD j 0) undef) w) : ∃ v w', (execOp a.eval o).run Tryd.prog w = .ok (.value v) w' ∧ Below w.heap.size w w' ∧ PrB 15 v w' := by
  injection ho with ho
  subst ho
  obtain ⟨A, hA, hC⟩ := hv 13 (by decide)
  obtain ⟨B, hB, hD⟩ := hv 14 (by decide)
  exact ⟨_, w, run_bv 24 _ [(0, .slice A 8 8), (1, .slice B 8 8)] #[.slice A 8 8, .slice B 8 8] rfl (by show [(0, a.tmps.getD 89 undef), (1, a.tmps.getD 90 undef)] = _; rw [show a.tmps.getD 89 undef = .slice A 8 8 from hA, show a.tmps.getD 90 undef = .slice B 8 8 from hB]) (by kernel_rfl), Below.refl _ _, A, 8, B, 8, rfl, Nat.le_refl _, hC, Nat.le_refl _, hD⟩
theorem kst19 (a : Act) (w : World) (o : Oper) (ho : (opsOf Tryd.f3 9)[19]? = some o) (hv : ∀ j ∈ (TK.2.getD 19 ([], [])).1, PrB j (a.tmps.getD (slK.getD j 0) undef) w) : ∃ v w', (execOp a.eval o).run Tryd.prog w = .ok (.value v) w' ∧ Below w.heap.size w w' ∧ PrB 19 v w' := by
  injection ho with ho
  subst ho
  obtain ⟨A, hA, hC⟩ := hv 17 (by decide)
  obtain ⟨B, hB, hD⟩ := hv 18 (by decide)
  exact ⟨_, w, run_bv 24 _ [(0, .slice A 1 1), (1, .slice B 1 1)] #[.slice A 1 1, .slice B 1 1] rfl (by show [(0, a.tmps.getD 93 undef), (1, a.tmps.getD 94 undef)] = _; rw [show a.tmps.getD 93 undef = .slice A 1 1 from hA, show a.tmps.getD 94 undef = .slice B 1 1 from hB]) (by kernel_rfl), Below.refl _ _, A, 1, B, 1, rfl, Nat.le_refl _, hC, Nat.le_refl _, hD⟩
theorem kst12 (a : Act) (w : World) (o : Oper) (ho : (opsOf Tryd.f3 9)[12]? = some o) (hv : ∀ j ∈ (TK.2.getD 12 ([], [])).1, PrB j (a.tmps.getD (slK.getD j 0) undef) w) : ∃ v w', (execOp a.eval o).run Tryd.prog w = .ok (.value v) w' ∧ Below w.heap.size w w' ∧ PrB 12 v w' := by
  injection ho with ho
  subst ho
  obtain ⟨A, c, B, d, hA, l1, hC, l2, hD⟩ := hv 11 (by decide)
  exact ⟨_, w, run_bv 26 _ [(0, .int .u8 7), (1, .int .u8 1), (4, .agg #[.slice A 1 c, .slice B 0 d])] #[.int .u8 7, .int .u8 1, .int .i64 0, .string ⟨#[]⟩, .slice A 1 c, .slice B 0 d] rfl (by show [(0, Value.int .u8 7), (1, .int .u8 1), (4, a.tmps.getD 87 undef)] = _; rw [show a.tmps.getD 87 undef = .agg #[.slice A 1 c, .slice B 0 d] from hA]) (by kernel_rfl), Below.refl _ _, A, c, B, d, rfl, l1, hC, l2, hD⟩
theorem kst16 (a : Act) (w : World) (o : Oper) (ho : (opsOf Tryd.f3 9)[16]? = some o) (hv : ∀ j ∈ (TK.2.getD 16 ([], [])).1, PrB j (a.tmps.getD (slK.getD j 0) undef) w) : ∃ v w', (execOp a.eval o).run Tryd.prog w = .ok (.value v) w' ∧ Below w.heap.size w w' ∧ PrB 16 v w' := by
  injection ho with ho
  subst ho
  obtain ⟨A, c, B, d, hA, l1, hC, l2, hD⟩ := hv 15 (by decide)
  exact ⟨_, w, run_bv 26 _ [(0, .int .u8 7), (1, .int .u8 1), (4, .agg #[.slice A 8 c, .slice B 8 d])] #[.int .u8 7, .int .u8 1, .int .i64 0, .string ⟨#[]⟩, .slice A 8 c, .slice B 8 d] rfl (by show [(0, Value.int .u8 7), (1, .int .u8 1), (4, a.tmps.getD 91 undef)] = _; rw [show a.tmps.getD 91 undef = .agg #[.slice A 8 c, .slice B 8 d] from hA]) (by kernel_rfl), Below.refl _ _, A, c, B, d, rfl, l1, hC, l2, hD⟩
theorem kst20 (a : Act) (w : World) (o : Oper) (ho : (opsOf Tryd.f3 9)[20]? = some o) (hv : ∀ j ∈ (TK.2.getD 20 ([], [])).1, PrB j (a.tmps.getD (slK.getD j 0) undef) w) : ∃ v w', (execOp a.eval o).run Tryd.prog w = .ok (.value v) w' ∧ Below w.heap.size w w' ∧ PrB 20 v w' := by
  injection ho with ho
  subst ho
  obtain ⟨A, c, B, d, hA, l1, hC, l2, hD⟩ := hv 19 (by decide)
  exact ⟨_, w, run_bv 26 _ [(0, .int .u8 5), (1, .int .u8 1), (4, .agg #[.slice A 1 c, .slice B 1 d])] #[.int .u8 5, .int .u8 1, .int .i64 0, .string ⟨#[]⟩, .slice A 1 c, .slice B 1 d] rfl (by show [(0, Value.int .u8 5), (1, .int .u8 1), (4, a.tmps.getD 95 undef)] = _; rw [show a.tmps.getD 95 undef = .agg #[.slice A 1 c, .slice B 1 d] from hA]) (by kernel_rfl), Below.refl _ _, A, c, B, d, rfl, l1, hC, l2, hD⟩
theorem kst22 (a : Act) (w : World) (o : Oper) (ho : (opsOf Tryd.f3 9)[22]? = some o) (hv : ∀ j ∈ (TK.2.getD 22 ([], [])).1, PrB j (a.tmps.getD (slK.getD j 0) undef) w) : ∃ v w', (execOp a.eval o).run Tryd.prog w = .ok (.value v) w' ∧ Below w.heap.size w w' ∧ PrB 22 v w' := by
  injection ho with ho
  subst ho
  obtain ⟨A, hA, hC⟩ := hv 21 (by decide)
  have h := string_of_reads (P := Tryd.prog) (c := zeros65536.length) Tryd.underlying29 Tryd.underlying5 Tryd.underlying9 (Kd.reads_of_C (enc := Value.int .u8) (d := (0 : Int)) (h1 := fun _ => rfl) hC)
  exact ⟨_, w, run_cv h hA, Below.refl _ _, _, rfl, by rw [len_str, len_z]⟩
theorem kst23 (a : Act) (w : World) (o : Oper) (ho : (opsOf Tryd.f3 9)[23]? = some o) (hv : ∀ j ∈ (TK.2.getD 23 ([], [])).1, PrB j (a.tmps.getD (slK.getD j 0) undef) w) : ∃ v w', (execOp a.eval o).run Tryd.prog w = .ok (.value v) w' ∧ Below w.heap.size w w' ∧ PrB 23 v w' := by
  injection ho with ho
  subst ho
  obtain ⟨t, hA, ht⟩ := hv 22 (by decide)
  exact ⟨_, w, run_bv 26 _ [(0, .int .u8 1), (1, .int .u8 1), (3, .string t)] #[.int .u8 1, .int .u8 1, .int .i64 0, .string t, .slice none 0 0, .slice none 0 0] rfl (by show [(0, Value.int .u8 1), (1, .int .u8 1), (3, a.tmps.getD 98 undef)] = _; rw [show a.tmps.getD 98 undef = .string t from hA]) (by kernel_rfl), Below.refl _ _, t, ht, none, 0, none, 0, rfl, Nat.le_refl _, nilI w, Nat.le_refl _, nilI w⟩
theorem kst25 (a : Act) (w : World) (o : Oper) (ho : (opsOf Tryd.f3 9)[25]? = some o) (hv : ∀ j ∈ (TK.2.getD 25 ([], [])).1, PrB j (a.tmps.getD (slK.getD j 0) undef) w) : ∃ v w', (execOp a.eval o).run Tryd.prog w = .ok (.value v) w' ∧ Below w.heap.size w w' ∧ PrB 25 v w' := by
  injection ho with ho
  subst ho
  obtain ⟨t, ht, A, hA, hC⟩ := hv 24 (by decide)
  exact ⟨_, w, run_len (by exact hA), Below.refl _ _, rfl⟩
theorem kst26 (a : Act) (w : World) (o : Oper) (ho : (opsOf Tryd.f3 9)[26]? = some o) (hv : ∀ j ∈ (TK.2.getD 26 ([], [])).1, PrB j (a.tmps.getD (slK.getD j 0) undef) w) : ∃ v w', (execOp a.eval o).run Tryd.prog w = .ok (.value v) w' ∧ Below w.heap.size w w' ∧ PrB 26 v w' := by
  injection ho with ho
  subst ho
  exact ⟨_, w, rfl, Below.refl _ _, rfl⟩
theorem kst24 (a : Act) (w : World) (o : Oper) (ho : (opsOf Tryd.f3 9)[24]? = some o) (hv : ∀ j ∈ (TK.2.getD 24 ([], [])).1, PrB j (a.tmps.getD (slK.getD j 0) undef) w) : ∃ v w', (execOp a.eval o).run Tryd.prog w = .ok (.value v) w' ∧ Below w.heap.size w w' ∧ PrB 24 v w' := by
  injection ho with ho
  subst ho
  obtain ⟨A0, c0, B0, d0, h0, l0, g0, m0, k0⟩ := hv 0 (by decide)
  replace h0 : a.tmps.getD 76 undef = .agg #[.int .u8 0, .int .u8 0, .int .i64 0, .string ⟨#[]⟩, .slice A0 0 c0, .slice B0 0 d0] := h0
  obtain ⟨A1, c1, B1, d1, h1, l1, g1, m1, k1⟩ := hv 1 (by decide)
  replace h1 : a.tmps.getD 77 undef = .agg #[.int .u8 10, .int .u8 0, .int .i64 0, .string ⟨#[]⟩, .slice A1 0 c1, .slice B1 0 d1] := h1
  obtain ⟨A2, c2, B2, d2, h2, l2, g2, m2, k2⟩ := hv 2 (by decide)
  replace h2 : a.tmps.getD 78 undef = .agg #[.int .u8 8, .int .u8 6, .int .i64 0, .string ⟨#[]⟩, .slice A2 0 c2, .slice B2 0 d2] := h2
  obtain ⟨A3, c3, B3, d3, h3, l3, g3, m3, k3⟩ := hv 3 (by decide)
  replace h3 : a.tmps.getD 79 undef = .agg #[.int .u8 8, .int .u8 0, .int .i64 0, .string ⟨#[]⟩, .slice A3 0 c3, .slice B3 0 d3] := h3
  obtain ⟨A4, c4, B4, d4, h4, l4, g4, m4, k4⟩ := hv 4 (by decide)
  replace h4 : a.tmps.getD 80 undef = .agg #[.int .u8 2, .int .u8 0, .int .i64 0, .string ⟨#[120]⟩, .slice A4 0 c4, .slice B4 0 d4] := h4
  obtain ⟨A5, c5, B5, d5, h5, l5, g5, m5, k5⟩ := hv 5 (by decide)
  replace h5 : a.tmps.getD 81 undef = .agg #[.int .u8 2, .int .u8 1, .int .i64 0, .string ⟨#[]⟩, .slice A5 0 c5, .slice B5 0 d5] := h5
  obtain ⟨A6, c6, B6, d6, h6, l6, g6, m6, k6⟩ := hv 6 (by decide)
  replace h6 : a.tmps.getD 82 undef = .agg #[.int .u8 3, .int .u8 0, .int .i64 256, .string ⟨#[]⟩, .slice A6 0 c6, .slice B6 0 d6] := h6
  obtain ⟨A7, c7, B7, d7, h7, l7, g7, m7, k7⟩ := hv 7 (by decide)
  replace h7 : a.tmps.getD 83 undef = .agg #[.int .u8 3, .int .u8 0, .int .i64 (-1), .string ⟨#[]⟩, .slice A7 0 c7, .slice B7 0 d7] := h7
  obtain ⟨A8, c8, B8, d8, h8, l8, g8, m8, k8⟩ := hv 8 (by decide)
  replace h8 : a.tmps.getD 84 undef = .agg #[.int .u8 1, .int .u8 1, .int .i64 1, .string ⟨#[]⟩, .slice A8 0 c8, .slice B8 0 d8] := h8
  obtain ⟨A9, c9, B9, d9, h9, l9, g9, m9, k9⟩ := hv 9 (by decide)
  replace h9 : a.tmps.getD 85 undef = .agg #[.int .u8 9, .int .u8 32, .int .i64 0, .string ⟨#[]⟩, .slice A9 0 c9, .slice B9 0 d9] := h9
  obtain ⟨A10, c10, B10, d10, h10, l10, g10, m10, k10⟩ := hv 12 (by decide)
  replace h10 : a.tmps.getD 88 undef = .agg #[.int .u8 7, .int .u8 1, .int .i64 0, .string ⟨#[]⟩, .slice A10 1 c10, .slice B10 0 d10] := h10
  obtain ⟨A11, c11, B11, d11, h11, l11, g11, m11, k11⟩ := hv 16 (by decide)
  replace h11 : a.tmps.getD 92 undef = .agg #[.int .u8 7, .int .u8 1, .int .i64 0, .string ⟨#[]⟩, .slice A11 8 c11, .slice B11 8 d11] := h11
  obtain ⟨A12, c12, B12, d12, h12, l12, g12, m12, k12⟩ := hv 20 (by decide)
  replace h12 : a.tmps.getD 96 undef = .agg #[.int .u8 5, .int .u8 1, .int .i64 0, .string ⟨#[]⟩, .slice A12 1 c12, .slice B12 1 d12] := h12
  obtain ⟨t, ht, A13, c13, B13, d13, h13, l13, g13, m13, k13⟩ := hv 23 (by decide)
  replace h13 : a.tmps.getD 99 undef = .agg #[.int .u8 1, .int .u8 1, .int .i64 0, .string t, .slice A13 0 c13, .slice B13 0 d13] := h13
  obtain ⟨i26, hi, hz0, hz1, hz2⟩ := info_parts info26
  have hrun := run_bsv (a := a) (w := w) 27 26 14 _ [(0, .agg #[.int .u8 0, .int .u8 0, .int .i64 0, .string ⟨#[]⟩, .slice A0 0 c0, .slice B0 0 d0]), (1, .agg #[.int .u8 10, .int .u8 0, .int .i64 0, .string ⟨#[]⟩, .slice A1 0 c1, .slice B1 0 d1]), (2, .agg #[.int .u8 8, .int .u8 6, .int .i64 0, .string ⟨#[]⟩, .slice A2 0 c2, .slice B2 0 d2]), (3, .agg #[.int .u8 8, .int .u8 0, .int .i64 0, .string ⟨#[]⟩, .slice A3 0 c3, .slice B3 0 d3]), (4, .agg #[.int .u8 2, .int .u8 0, .int .i64 0, .string ⟨#[120]⟩, .slice A4 0 c4, .slice B4 0 d4]), (5, .agg #[.int .u8 2, .int .u8 1, .int .i64 0, .string ⟨#[]⟩, .slice A5 0 c5, .slice B5 0 d5]), (6, .agg #[.int .u8 3, .int .u8 0, .int .i64 256, .string ⟨#[]⟩, .slice A6 0 c6, .slice B6 0 d6]), (7, .agg #[.int .u8 3, .int .u8 0, .int .i64 (-1), .string ⟨#[]⟩, .slice A7 0 c7, .slice B7 0 d7]), (8, .agg #[.int .u8 1, .int .u8 1, .int .i64 1, .string ⟨#[]⟩, .slice A8 0 c8, .slice B8 0 d8]), (9, .agg #[.int .u8 9, .int .u8 32, .int .i64 0, .string ⟨#[]⟩, .slice A9 0 c9, .slice B9 0 d9]), (10, .agg #[.int .u8 7, .int .u8 1, .int .i64 0, .string ⟨#[]⟩, .slice A10 1 c10, .slice B10 0 d10]), (11, .agg #[.int .u8 7, .int .u8 1, .int .i64 0, .string ⟨#[]⟩, .slice A11 8 c11, .slice B11 8 d11]), (12, .agg #[.int .u8 5, .int .u8 1, .int .i64 0, .string ⟨#[]⟩, .slice A12 1 c12, .slice B12 1 d12]), (13, .agg #[.int .u8 1, .int .u8 1, .int .i64 0, .string t, .slice A13 0 c13, .slice B13 0 d13])] (rfl : (opsOf Tryd.f3 9)[24]!.op = _) #[.int .u8 0, .int .u8 0, .int .i64 0, .string ⟨#[]⟩, .slice A0 0 c0, .slice B0 0 d0, .int .u8 10, .int .u8 0, .int .i64 0, .string ⟨#[]⟩, .slice A1 0 c1, .slice B1 0 d1, .int .u8 8, .int .u8 6, .int .i64 0, .string ⟨#[]⟩, .slice A2 0 c2, .slice B2 0 d2, .int .u8 8, .int .u8 0, .int .i64 0, .string ⟨#[]⟩, .slice A3 0 c3, .slice B3 0 d3, .int .u8 2, .int .u8 0, .int .i64 0, .string ⟨#[120]⟩, .slice A4 0 c4, .slice B4 0 d4, .int .u8 2, .int .u8 1, .int .i64 0, .string ⟨#[]⟩, .slice A5 0 c5, .slice B5 0 d5, .int .u8 3, .int .u8 0, .int .i64 256, .string ⟨#[]⟩, .slice A6 0 c6, .slice B6 0 d6, .int .u8 3, .int .u8 0, .int .i64 (-1), .string ⟨#[]⟩, .slice A7 0 c7, .slice B7 0 d7, .int .u8 1, .int .u8 1, .int .i64 1, .string ⟨#[]⟩, .slice A8 0 c8, .slice B8 0 d8, .int .u8 9, .int .u8 32, .int .i64 0, .string ⟨#[]⟩, .slice A9 0 c9, .slice B9 0 d9, .int .u8 7, .int .u8 1, .int .i64 0, .string ⟨#[]⟩, .slice A10 1 c10, .slice B10 0 d10, .int .u8 7, .int .u8 1, .int .i64 0, .string ⟨#[]⟩, .slice A11 8 c11, .slice B11 8 d11, .int .u8 5, .int .u8 1, .int .i64 0, .string ⟨#[]⟩, .slice A12 1 c12, .slice B12 1 d12, .int .u8 1, .int .u8 1, .int .i64 0, .string t, .slice A13 0 c13, .slice B13 0 d13] i26 _ Tryd.underlying27 hi hz0 (by rw [hz1]; decide) (by rw [hz1]; decide) (by show [(0, a.tmps.getD 76 undef), (1, a.tmps.getD 77 undef), (2, a.tmps.getD 78 undef), (3, a.tmps.getD 79 undef), (4, a.tmps.getD 80 undef), (5, a.tmps.getD 81 undef), (6, a.tmps.getD 82 undef), (7, a.tmps.getD 83 undef), (8, a.tmps.getD 84 undef), (9, a.tmps.getD 85 undef), (10, a.tmps.getD 88 undef), (11, a.tmps.getD 92 undef), (12, a.tmps.getD 96 undef), (13, a.tmps.getD 99 undef)] = _; rw [h0, h1, h2, h3, h4, h5, h6, h7, h8, h9, h10, h11, h12, h13]) (by rw [hz1]; kernel_rfl)
  refine ⟨_, _, hrun, below_alloc (Below.refl _ _) _, t, ht, _, rfl, ?_⟩
  have hR : RowsOf (k26.K w) 6 [[.int .u8 0, .int .u8 0, .int .i64 0, .string ⟨#[]⟩, .slice A0 0 c0, .slice B0 0 d0], [.int .u8 10, .int .u8 0, .int .i64 0, .string ⟨#[]⟩, .slice A1 0 c1, .slice B1 0 d1], [.int .u8 8, .int .u8 6, .int .i64 0, .string ⟨#[]⟩, .slice A2 0 c2, .slice B2 0 d2], [.int .u8 8, .int .u8 0, .int .i64 0, .string ⟨#[]⟩, .slice A3 0 c3, .slice B3 0 d3], [.int .u8 2, .int .u8 0, .int .i64 0, .string ⟨#[120]⟩, .slice A4 0 c4, .slice B4 0 d4], [.int .u8 2, .int .u8 1, .int .i64 0, .string ⟨#[]⟩, .slice A5 0 c5, .slice B5 0 d5], [.int .u8 3, .int .u8 0, .int .i64 256, .string ⟨#[]⟩, .slice A6 0 c6, .slice B6 0 d6], [.int .u8 3, .int .u8 0, .int .i64 (-1), .string ⟨#[]⟩, .slice A7 0 c7, .slice B7 0 d7], [.int .u8 1, .int .u8 1, .int .i64 1, .string ⟨#[]⟩, .slice A8 0 c8, .slice B8 0 d8], [.int .u8 9, .int .u8 32, .int .i64 0, .string ⟨#[]⟩, .slice A9 0 c9, .slice B9 0 d9], [.int .u8 7, .int .u8 1, .int .i64 0, .string ⟨#[]⟩, .slice A10 1 c10, .slice B10 0 d10], [.int .u8 7, .int .u8 1, .int .i64 0, .string ⟨#[]⟩, .slice A11 8 c11, .slice B11 8 d11], [.int .u8 5, .int .u8 1, .int .i64 0, .string ⟨#[]⟩, .slice A12 1 c12, .slice B12 1 d12], [.int .u8 1, .int .u8 1, .int .i64 0, .string t, .slice A13 0 c13, .slice B13 0 d13]] (badActs t) := .cons ⟨rfl, k26_mk w _ l0 g0 m0 k0⟩ (.cons ⟨rfl, k26_mk w _ l1 g1 m1 k1⟩ (.cons ⟨rfl, k26_mk w _ l2 g2 m2 k2⟩ (.cons ⟨rfl, k26_mk w _ l3 g3 m3 k3⟩ (.cons ⟨rfl, k26_mk w _ l4 g4 m4 k4⟩ (.cons ⟨rfl, k26_mk w _ l5 g5 m5 k5⟩ (.cons ⟨rfl, k26_mk w _ l6 g6 m6 k6⟩ (.cons ⟨rfl, k26_mk w _ l7 g7 m7 k7⟩ (.cons ⟨rfl, k26_mk w _ l8 g8 m8 k8⟩ (.cons ⟨rfl, k26_mk w _ l9 g9 m9 k9⟩ (.cons ⟨rfl, k26_mk w _ l10 g10 m10 k10⟩ (.cons ⟨rfl, k26_mk w _ l11 g11 m11 k11⟩ (.cons ⟨rfl, k26_mk w _ l12 g12 m12 k12⟩ (.cons ⟨rfl, k26_mk w _ l13 g13 m13 k13⟩ .nil)))))))))))))
  exact C_rows hR (blk_new w _) rfl rfl (by decide) (below_alloc (Below.refl _ _) _)
theorem ops_at : ∀ i, i < slK.length → ∃ o, (opsOf Tryd.f3 9)[i]? = some o ∧ o.dst = some (slK.getD i 0) ∧ o.guard = none := by
  intro i hi
  have hi : i < 27 := hi
  match i, hi with
  | 0, _ => exact ⟨_, rfl, rfl, rfl⟩
  | 1, _ => exact ⟨_, rfl, rfl, rfl⟩
  | 2, _ => exact ⟨_, rfl, rfl, rfl⟩
  | 3, _ => exact ⟨_, rfl, rfl, rfl⟩
  | 4, _ => exact ⟨_, rfl, rfl, rfl⟩
  | 5, _ => exact ⟨_, rfl, rfl, rfl⟩
  | 6, _ => exact ⟨_, rfl, rfl, rfl⟩
  | 7, _ => exact ⟨_, rfl, rfl, rfl⟩
  | 8, _ => exact ⟨_, rfl, rfl, rfl⟩
  | 9, _ => exact ⟨_, rfl, rfl, rfl⟩
  | 10, _ => exact ⟨_, rfl, rfl, rfl⟩
  | 11, _ => exact ⟨_, rfl, rfl, rfl⟩
  | 12, _ => exact ⟨_, rfl, rfl, rfl⟩
  | 13, _ => exact ⟨_, rfl, rfl, rfl⟩
  | 14, _ => exact ⟨_, rfl, rfl, rfl⟩
  | 15, _ => exact ⟨_, rfl, rfl, rfl⟩
  | 16, _ => exact ⟨_, rfl, rfl, rfl⟩
  | 17, _ => exact ⟨_, rfl, rfl, rfl⟩
  | 18, _ => exact ⟨_, rfl, rfl, rfl⟩
  | 19, _ => exact ⟨_, rfl, rfl, rfl⟩
  | 20, _ => exact ⟨_, rfl, rfl, rfl⟩
  | 21, _ => exact ⟨_, rfl, rfl, rfl⟩
  | 22, _ => exact ⟨_, rfl, rfl, rfl⟩
  | 23, _ => exact ⟨_, rfl, rfl, rfl⟩
  | 24, _ => exact ⟨_, rfl, rfl, rfl⟩
  | 25, _ => exact ⟨_, rfl, rfl, rfl⟩
  | 26, _ => exact ⟨_, rfl, rfl, rfl⟩
  | i + 27, h => exact absurd h (by omega)
theorem kstep (i : Nat) (o : Oper) (a : Act) (w : World) (ho : (opsOf Tryd.f3 9)[i]? = some o) (hi : i < slK.length) (hv : ∀ j ∈ (TK.2.getD i ([], [])).1, PrB j (a.tmps.getD (slK.getD j 0) undef) w) : ∃ v w', (execOp a.eval o).run Tryd.prog w = .ok (.value v) w' ∧ Below w.heap.size w w' ∧ PrB i v w' := by
  have hi : i < 27 := hi
  match i, hi with
  | 0, _ => exact kst0 a w o ho hv
  | 1, _ => exact kst1 a w o ho hv
  | 2, _ => exact kst2 a w o ho hv
  | 3, _ => exact kst3 a w o ho hv
  | 4, _ => exact kst4 a w o ho hv
  | 5, _ => exact kst5 a w o ho hv
  | 6, _ => exact kst6 a w o ho hv
  | 7, _ => exact kst7 a w o ho hv
  | 8, _ => exact kst8 a w o ho hv
  | 9, _ => exact kst9 a w o ho hv
  | 10, _ => exact kst10 a w o ho hv
  | 11, _ => exact kst11 a w o ho hv
  | 12, _ => exact kst12 a w o ho hv
  | 13, _ => exact kst13 a w o ho hv
  | 14, _ => exact kst14 a w o ho hv
  | 15, _ => exact kst15 a w o ho hv
  | 16, _ => exact kst16 a w o ho hv
  | 17, _ => exact kst17 a w o ho hv
  | 18, _ => exact kst18 a w o ho hv
  | 19, _ => exact kst19 a w o ho hv
  | 20, _ => exact kst20 a w o ho hv
  | 21, _ => exact kst21 a w o ho hv
  | 22, _ => exact kst22 a w o ho hv
  | 23, _ => exact kst23 a w o ho hv
  | 24, _ => exact kst24 a w o ho hv
  | 25, _ => exact kst25 a w o ho hv
  | 26, _ => exact kst26 a w o ho hv
  | i + 27, h => exact absurd h (by omega)
end Go.Proofs.YtahfcdlggaoakaaDoor.Rd

/- script.put: the bytes that it puts behind those of a buffer. Conditions: the act is plain; the buffer is one that was only written; its bytes and the act's are fewer than 2^47. -/
import Derived.Test.YtahfcdlggaoakaaDoorPn
import Derived.Test.YtahfcdlggaoakaaDoorShelf
namespace Go.Proofs.YtahfcdlggaoakaaDoor.Rd
open Go.RowKit Go.Proofs.YtahfcdlggaoakaaDoorW.PrintWords Go.Proofs.YtahfcdlggaoakaaDoorW.PrintLast Go.Proofs.YtahfcdlggaoakaaDoorW.PrintMore
open Go.Proofs.YtahfcdlggaoakaaDoor.PScriptDecodes
set_option linter.unusedVariables false
set_option linter.unusedSimpArgs false

abbrev Buf (B b : Nat) (xs : List Int) (w : World) : Prop := Lib.IsBuffer 50 5 B b (nums .u8 xs) w
theorem one_nums (xs : List Int) : ∀ v ∈ nums .u8 xs, v.oneCell' = true := by
  intro v hv
  obtain ⟨x, _, rfl⟩ := List.mem_map.1 hv
  rfl
theorem Buf.byte {B b : Nat} {xs : List Int} {c : Int} {w : World} (h : Lib.IsBuffer 50 5 B b (nums .u8 xs ++ [.int .u8 c]) w) : Buf B b (xs ++ [c]) w := by
  unfold Buf; rw [nums_append]; exact h
theorem Buf.bytes {B b : Nat} {xs ys : List Int} {w : World} (h : Lib.IsBuffer 50 5 B b (nums .u8 xs ++ nums .u8 ys) w) : Buf B b (xs ++ ys) w := by
  unfold Buf; rw [nums_append]; exact h
theorem byteCells_nums (s : ByteArray) : Lib.byteCells s.data.toList = nums .u8 (bytesOf s) := by
  simp [Lib.byteCells, nums, bytesOf, Function.comp_def]

structure PS (z w : World) (B b zb : Nat) (xs : List Int) (cs : Array Value) : Prop where
  buf : Buf B b xs w
  blk : w.heap[zb]? = some (.cells cs 26 (0, 0))
  ne : zb ≠ b
  fr : Below B z w
  sz : B ≤ w.heap.size
theorem PS.call {z w w' : World} {B b zb : Nat} {xs xs' : List Int} {cs : Array Value} (h : PS z w B b zb xs cs) (hi : Buf B b xs' w') (hb : Below B w w') (hk : Lib.OthersKept 5 (some b) w w') : PS z w' B b zb xs' cs :=
  ⟨hi, hk _ _ h.blk (by intro e; injection e with e; exact h.ne e) (by intro c fz e; cases e), h.ne, h.fr.trans hb, Nat.le_trans h.sz hb.size⟩
theorem Buf.alloc {B b : Nat} {xs : List Int} {w : World} (h : Buf B b xs w) (o : Obj) : Buf B b xs (w.alloc o) := by
  obtain ⟨h1, v, lr, h2, h3, h4⟩ := h
  exact ⟨h1, v, lr, blk_alloc h2 o, pw_own_below h3 (below_alloc (Below.refl _ _) _), h4⟩
theorem Buf.lt {B b : Nat} {xs : List Int} {w : World} (h : Buf B b xs w) : b < w.heap.size := by
  obtain ⟨h1, v, lr, h2, _⟩ := h
  exact blk_lt h2
theorem PS.alloc {z w : World} {B b zb : Nat} {xs : List Int} {cs : Array Value} (h : PS z w B b zb xs cs) (o : Obj) : PS z (w.alloc o) B b zb xs cs :=
  ⟨h.buf.alloc o, blk_alloc h.blk o, h.ne, h.fr.alloc h.sz o, Nat.le_trans h.sz (below_alloc (Below.refl _ w) o).size⟩
theorem PS.cell {z w : World} {B b zb : Nat} {xs : List Int} {cs : Array Value} (h : PS z w B b zb xs cs) (i : Nat) {v : Value} (e : cs[i]? = some v) : w.cell? ⟨zb, i, none⟩ = some v := (blk_cell h.blk i).trans e

/-- The pairs of bytes of a crash. -/
def pairBytes : List Int → List Int → List Int
  | x :: xs, y :: ys => x :: y :: pairBytes xs ys
  | _, _ => []
theorem pairBytes_len : ∀ xs ys : List Int, (pairBytes xs ys).length ≤ 2 * xs.length
  | [], _ => by simp [pairBytes]
  | _ :: _, [] => by simp [pairBytes]
  | x :: xs, y :: ys => by have := pairBytes_len xs ys; simp [pairBytes]; omega
theorem pairBytes_snoc : ∀ (xs ys : List Int) (j : Nat), j < xs.length → j < ys.length → pairBytes (xs.take (j + 1)) (ys.take (j + 1)) = pairBytes (xs.take j) (ys.take j) ++ [xs.getD j 0, ys.getD j 0]
  | [], _, _, h, _ => by simp at h
  | _ :: _, [], _, _, h => by simp at h
  | x :: xs, y :: ys, 0, _, _ => by simp [pairBytes]
  | x :: xs, y :: ys, j + 1, h1, h2 => by
    have h := pairBytes_snoc xs ys j (by simpa using h1) (by simpa using h2)
    simp only [List.take_succ_cons, pairBytes, List.cons_append, h, List.getD_cons_succ]
theorem good_of {xs : List Int} (h : badAt xs = false) {x : Int} (hx : x ∈ xs) : 0 ≤ x ∧ x ≤ 255 := by
  unfold badAt at h
  rw [List.any_eq_false] at h
  have := h x hx
  simpa [sml] using this

/-- The bytes of a plain act. -/
def putOf (k n num : Int) (text : ByteArray) (ks ts : List Int) : List Int :=
  [k - 1] ++ (if k = 1 ∨ 5 ≤ k ∧ k ≤ 8 then [n - 1] else if k = 9 then [n] else []) ++ (if 2 ≤ k ∧ k ≤ 6 ∨ k = 9 then [num] else []) ++
    (if k = 1 then [(text.size : Int) / 256, (text.size : Int) % 256] ++ bytesOf text else []) ++ (if k = 6 ∨ k = 7 then [(ks.length : Int)] ++ pairBytes ks ts else [])

def PutPost (z : World) (B b : Nat) (xs : List Int) (e : Ending) (w' : World) : Prop := e = .returned (.tuple #[]) ∧ Buf B b xs w' ∧ Below B z w'


theorem putOf_1 (n num : Int) (text : ByteArray) (ks ts : List Int) : putOf 1 n num text ks ts = [0] ++ [n - 1] ++ ([(text.size : Int) / 256, (text.size : Int) % 256] ++ bytesOf text) := by simp [putOf]
set_option maxHeartbeats 2000000 in
theorem put_1 (B b : Nat) (xs : List Int) (n num : Int) (text : ByteArray) (A4 A5 : Option Addr) (c4 c5 : Nat) (ks ts : List Int) (z : World) (hbuf : Buf B b xs z) (hBz : B ≤ z.heap.size)
    (h4 : ReadsInt z .i64 A4 ks.length ks) (h5 : ReadsInt z .i64 A5 ts.length ts) (hA4 : 0 < ks.length → ∀ ad, A4 = some ad → ad.block < B) (hA5 : 0 < ts.length → ∀ ad, A5 = some ad → ad.block < B)
    (hlim : xs.length + 70000 ≤ 140737488355328) (hp : plainB 1 n num text ks ts = true) :
    Calls Tryd.prog 19 #[.pointer (some ⟨b, 0, none⟩), .agg #[.int .u8 1, .int .u8 n, .int .i64 num, .string text, .slice A4 ks.length c4, .slice A5 ts.length c5]] z (PutPost z B b (xs ++ putOf 1 n num text ks ts)) := by
  obtain ⟨_, _, hno, hsm, hnu, hts, htx, hle, hl8, hcr, hbad⟩ := (plainB_iff _ _ _ _ _ _).1 hp
  obtain ⟨L, hL⟩ : ∃ L, L = xs ++ putOf 1 n num text ks ts := ⟨_, rfl⟩
  rw [← hL]
  rw [putOf_1] at hL
  have HL := Aside0.mk hL
  have H : Aside0 (PS z (z.alloc (.cells #[.int .u8 1, .int .u8 n, .int .i64 num, .string text, .slice A4 ks.length c4, .slice A5 ts.length c5] 26)) B b z.heap.size xs #[.int .u8 1, .int .u8 n, .int .i64 num, .string text, .slice A4 ks.length c4, .slice A5 ts.length c5]) :=
    ⟨⟨hbuf.alloc _, blk_new _ _, by have := hbuf.lt; omega, (Below.refl B z).alloc hBz _, Nat.le_trans hBz (below_alloc (Below.refl _ z) _).size⟩⟩
  have hn1 : 1 ≤ n := by simp [nodeOk] at hno; omega
  have hn5 : n ≤ 5 := by simp [nodeOk] at hno; omega
  clear hbuf h4 h5 hA4 hA5 hno hsm hnu htx hle hcr hbad hp hL
  go_enter Tryd.func19, Tryd.ntmps19
  go_wp2_with fail
  refine (takes_1 _).mono ?_
  rintro e w1 ⟨rfl, rfl⟩
  go_wp2_with fail
  refine (Tryd.Buffer_WriteByte_k B b (nums .u8 (xs)) (0) _ H.out.buf H.out.sz (one_nums _) (by simp only [nums_length, List.length_append, List.length_cons, List.length_nil]; omega)).mono ?_
  rintro e w2 ⟨rfl, hi, hb, hk⟩
  have n0_ := Aside0.mk (H.out.call (Buf.byte hi) hb hk)
  clear H hi hb hk
  have H := n0_
  clear n0_
  have c1 := H.out.cell 1 (v := .int .u8 n) rfl
  go_wp2_with fail
  refine (Tryd.Buffer_WriteByte_k B b (nums .u8 (xs ++ [0])) (n - 1) _ H.out.buf H.out.sz (one_nums _) (by simp only [nums_length, List.length_append, List.length_cons, List.length_nil]; omega)).mono ?_
  rintro e w2 ⟨rfl, hi, hb, hk⟩
  have n0_ := Aside0.mk (H.out.call (Buf.byte hi) hb hk)
  clear H hi hb hk
  have H := n0_
  clear n0_
  have c3 := H.out.cell 3 (v := .string text) rfl
  go_wp2_with fail
  refine (Tryd.Buffer_Write_any B b (nums .u8 (xs ++ [0] ++ [n - 1])) (nums .u8 [(text.size : Int) / 256, (text.size : Int) % 256]) _ 2 2 _ (H.out.alloc _).buf (H.out.alloc _).sz (one_nums _) rfl ?hab ?hsrc (one_nums _) (by simp only [nums_length, List.length_append, List.length_cons, List.length_nil]; omega)).mono ?_
  case hab => have := H.out.buf.lt; simp; omega
  case hsrc =>
    intro j v hj
    rw [add_plain]
    exact (blk_cell (blk_new _ _) j).trans (by simpa [nums] using hj)
  rintro e w3 ⟨rfl, hi, hb, hk⟩
  have n0_ := Aside0.mk ((H.out.alloc _).call (Buf.bytes hi) hb hk)
  clear H hi hb hk c3
  have H := n0_
  clear n0_
  have c3 := H.out.cell 3 (v := .string text) rfl
  go_wp2_with fail
  refine (Tryd.Buffer_WriteString_k B b _ text _ H.out.buf H.out.sz (one_nums _) (by simp only [nums_length, List.length_append, List.length_cons, List.length_nil]; omega)).mono ?_
  rintro e w4 ⟨rfl, hi, hb, hk⟩
  rw [byteCells_nums] at hi
  have n0_ := Aside0.mk (H.out.call (Buf.bytes hi) hb hk)
  clear H hi hb hk
  have H := n0_
  clear n0_
  go_wp2
  go_end0
  exact ⟨rfl, by rw [HL.out]; simpa using H.out.buf, H.out.fr⟩

theorem putOf_2 (n num : Int) (text : ByteArray) (ks ts : List Int) : putOf 2 n num text ks ts = [1] ++ [num] := by simp [putOf]
set_option maxHeartbeats 2000000 in
theorem put_2 (B b : Nat) (xs : List Int) (n num : Int) (text : ByteArray) (A4 A5 : Option Addr) (c4 c5 : Nat) (ks ts : List Int) (z : World) (hbuf : Buf B b xs z) (hBz : B ≤ z.heap.size)
    (h4 : ReadsInt z .i64 A4 ks.length ks) (h5 : ReadsInt z .i64 A5 ts.length ts) (hA4 : 0 < ks.length → ∀ ad, A4 = some ad → ad.block < B) (hA5 : 0 < ts.length → ∀ ad, A5 = some ad → ad.block < B)
    (hlim : xs.length + 70000 ≤ 140737488355328) (hp : plainB 2 n num text ks ts = true) :
    Calls Tryd.prog 19 #[.pointer (some ⟨b, 0, none⟩), .agg #[.int .u8 2, .int .u8 n, .int .i64 num, .string text, .slice A4 ks.length c4, .slice A5 ts.length c5]] z (PutPost z B b (xs ++ putOf 2 n num text ks ts)) := by
  obtain ⟨_, _, hno, hsm, hnu, hts, htx, hle, hl8, hcr, hbad⟩ := (plainB_iff _ _ _ _ _ _).1 hp
  obtain ⟨L, hL⟩ : ∃ L, L = xs ++ putOf 2 n num text ks ts := ⟨_, rfl⟩
  rw [← hL]
  rw [putOf_2] at hL
  have HL := Aside0.mk hL
  have H : Aside0 (PS z (z.alloc (.cells #[.int .u8 2, .int .u8 n, .int .i64 num, .string text, .slice A4 ks.length c4, .slice A5 ts.length c5] 26)) B b z.heap.size xs #[.int .u8 2, .int .u8 n, .int .i64 num, .string text, .slice A4 ks.length c4, .slice A5 ts.length c5]) :=
    ⟨⟨hbuf.alloc _, blk_new _ _, by have := hbuf.lt; omega, (Below.refl B z).alloc hBz _, Nat.le_trans hBz (below_alloc (Below.refl _ z) _).size⟩⟩
  have hm0 : 0 ≤ num := by simp [sml] at hsm; omega
  have hm1 : num ≤ 255 := by simp [sml] at hsm; omega
  clear hbuf h4 h5 hA4 hA5 hno hsm hnu htx hle hcr hbad hp hL
  go_enter Tryd.func19, Tryd.ntmps19
  go_wp2_with fail
  refine (takes_2 _).mono ?_
  rintro e w1 ⟨rfl, rfl⟩
  go_wp2_with fail
  refine (Tryd.Buffer_WriteByte_k B b (nums .u8 (xs)) (1) _ H.out.buf H.out.sz (one_nums _) (by simp only [nums_length, List.length_append, List.length_cons, List.length_nil]; omega)).mono ?_
  rintro e w2 ⟨rfl, hi, hb, hk⟩
  have n0_ := Aside0.mk (H.out.call (Buf.byte hi) hb hk)
  clear H hi hb hk
  have H := n0_
  clear n0_
  have c2 := H.out.cell 2 (v := .int .i64 num) rfl
  go_wp2_with fail
  refine (Tryd.Buffer_WriteByte_k B b (nums .u8 (xs ++ [1])) (num) _ H.out.buf H.out.sz (one_nums _) (by simp only [nums_length, List.length_append, List.length_cons, List.length_nil]; omega)).mono ?_
  rintro e w2 ⟨rfl, hi, hb, hk⟩
  have n0_ := Aside0.mk (H.out.call (Buf.byte hi) hb hk)
  clear H hi hb hk
  have H := n0_
  clear n0_
  go_wp2
  go_end0
  exact ⟨rfl, by rw [HL.out]; simpa using H.out.buf, H.out.fr⟩

theorem putOf_3 (n num : Int) (text : ByteArray) (ks ts : List Int) : putOf 3 n num text ks ts = [2] ++ [num] := by simp [putOf]
set_option maxHeartbeats 2000000 in
theorem put_3 (B b : Nat) (xs : List Int) (n num : Int) (text : ByteArray) (A4 A5 : Option Addr) (c4 c5 : Nat) (ks ts : List Int) (z : World) (hbuf : Buf B b xs z) (hBz : B ≤ z.heap.size)
    (h4 : ReadsInt z .i64 A4 ks.length ks) (h5 : ReadsInt z .i64 A5 ts.length ts) (hA4 : 0 < ks.length → ∀ ad, A4 = some ad → ad.block < B) (hA5 : 0 < ts.length → ∀ ad, A5 = some ad → ad.block < B)
    (hlim : xs.length + 70000 ≤ 140737488355328) (hp : plainB 3 n num text ks ts = true) :
    Calls Tryd.prog 19 #[.pointer (some ⟨b, 0, none⟩), .agg #[.int .u8 3, .int .u8 n, .int .i64 num, .string text, .slice A4 ks.length c4, .slice A5 ts.length c5]] z (PutPost z B b (xs ++ putOf 3 n num text ks ts)) := by
  obtain ⟨_, _, hno, hsm, hnu, hts, htx, hle, hl8, hcr, hbad⟩ := (plainB_iff _ _ _ _ _ _).1 hp
  obtain ⟨L, hL⟩ : ∃ L, L = xs ++ putOf 3 n num text ks ts := ⟨_, rfl⟩
  rw [← hL]
  rw [putOf_3] at hL
  have HL := Aside0.mk hL
  have H : Aside0 (PS z (z.alloc (.cells #[.int .u8 3, .int .u8 n, .int .i64 num, .string text, .slice A4 ks.length c4, .slice A5 ts.length c5] 26)) B b z.heap.size xs #[.int .u8 3, .int .u8 n, .int .i64 num, .string text, .slice A4 ks.length c4, .slice A5 ts.length c5]) :=
    ⟨⟨hbuf.alloc _, blk_new _ _, by have := hbuf.lt; omega, (Below.refl B z).alloc hBz _, Nat.le_trans hBz (below_alloc (Below.refl _ z) _).size⟩⟩
  have hm0 : 0 ≤ num := by simp [sml] at hsm; omega
  have hm1 : num ≤ 255 := by simp [sml] at hsm; omega
  clear hbuf h4 h5 hA4 hA5 hno hsm hnu htx hle hcr hbad hp hL
  go_enter Tryd.func19, Tryd.ntmps19
  go_wp2_with fail
  refine (takes_3 _).mono ?_
  rintro e w1 ⟨rfl, rfl⟩
  go_wp2_with fail
  refine (Tryd.Buffer_WriteByte_k B b (nums .u8 (xs)) (2) _ H.out.buf H.out.sz (one_nums _) (by simp only [nums_length, List.length_append, List.length_cons, List.length_nil]; omega)).mono ?_
  rintro e w2 ⟨rfl, hi, hb, hk⟩
  have n0_ := Aside0.mk (H.out.call (Buf.byte hi) hb hk)
  clear H hi hb hk
  have H := n0_
  clear n0_
  have c2 := H.out.cell 2 (v := .int .i64 num) rfl
  go_wp2_with fail
  refine (Tryd.Buffer_WriteByte_k B b (nums .u8 (xs ++ [2])) (num) _ H.out.buf H.out.sz (one_nums _) (by simp only [nums_length, List.length_append, List.length_cons, List.length_nil]; omega)).mono ?_
  rintro e w2 ⟨rfl, hi, hb, hk⟩
  have n0_ := Aside0.mk (H.out.call (Buf.byte hi) hb hk)
  clear H hi hb hk
  have H := n0_
  clear n0_
  go_wp2
  go_end0
  exact ⟨rfl, by rw [HL.out]; simpa using H.out.buf, H.out.fr⟩

theorem putOf_4 (n num : Int) (text : ByteArray) (ks ts : List Int) : putOf 4 n num text ks ts = [3] ++ [num] := by simp [putOf]
set_option maxHeartbeats 2000000 in
theorem put_4 (B b : Nat) (xs : List Int) (n num : Int) (text : ByteArray) (A4 A5 : Option Addr) (c4 c5 : Nat) (ks ts : List Int) (z : World) (hbuf : Buf B b xs z) (hBz : B ≤ z.heap.size)
    (h4 : ReadsInt z .i64 A4 ks.length ks) (h5 : ReadsInt z .i64 A5 ts.length ts) (hA4 : 0 < ks.length → ∀ ad, A4 = some ad → ad.block < B) (hA5 : 0 < ts.length → ∀ ad, A5 = some ad → ad.block < B)
    (hlim : xs.length + 70000 ≤ 140737488355328) (hp : plainB 4 n num text ks ts = true) :
    Calls Tryd.prog 19 #[.pointer (some ⟨b, 0, none⟩), .agg #[.int .u8 4, .int .u8 n, .int .i64 num, .string text, .slice A4 ks.length c4, .slice A5 ts.length c5]] z (PutPost z B b (xs ++ putOf 4 n num text ks ts)) := by
  obtain ⟨_, _, hno, hsm, hnu, hts, htx, hle, hl8, hcr, hbad⟩ := (plainB_iff _ _ _ _ _ _).1 hp
  obtain ⟨L, hL⟩ : ∃ L, L = xs ++ putOf 4 n num text ks ts := ⟨_, rfl⟩
  rw [← hL]
  rw [putOf_4] at hL
  have HL := Aside0.mk hL
  have H : Aside0 (PS z (z.alloc (.cells #[.int .u8 4, .int .u8 n, .int .i64 num, .string text, .slice A4 ks.length c4, .slice A5 ts.length c5] 26)) B b z.heap.size xs #[.int .u8 4, .int .u8 n, .int .i64 num, .string text, .slice A4 ks.length c4, .slice A5 ts.length c5]) :=
    ⟨⟨hbuf.alloc _, blk_new _ _, by have := hbuf.lt; omega, (Below.refl B z).alloc hBz _, Nat.le_trans hBz (below_alloc (Below.refl _ z) _).size⟩⟩
  have hm0 : 0 ≤ num := by simp [sml] at hsm; omega
  have hm1 : num ≤ 255 := by simp [sml] at hsm; omega
  clear hbuf h4 h5 hA4 hA5 hno hsm hnu htx hle hcr hbad hp hL
  go_enter Tryd.func19, Tryd.ntmps19
  go_wp2_with fail
  refine (takes_4 _).mono ?_
  rintro e w1 ⟨rfl, rfl⟩
  go_wp2_with fail
  refine (Tryd.Buffer_WriteByte_k B b (nums .u8 (xs)) (3) _ H.out.buf H.out.sz (one_nums _) (by simp only [nums_length, List.length_append, List.length_cons, List.length_nil]; omega)).mono ?_
  rintro e w2 ⟨rfl, hi, hb, hk⟩
  have n0_ := Aside0.mk (H.out.call (Buf.byte hi) hb hk)
  clear H hi hb hk
  have H := n0_
  clear n0_
  have c2 := H.out.cell 2 (v := .int .i64 num) rfl
  go_wp2_with fail
  refine (Tryd.Buffer_WriteByte_k B b (nums .u8 (xs ++ [3])) (num) _ H.out.buf H.out.sz (one_nums _) (by simp only [nums_length, List.length_append, List.length_cons, List.length_nil]; omega)).mono ?_
  rintro e w2 ⟨rfl, hi, hb, hk⟩
  have n0_ := Aside0.mk (H.out.call (Buf.byte hi) hb hk)
  clear H hi hb hk
  have H := n0_
  clear n0_
  go_wp2
  go_end0
  exact ⟨rfl, by rw [HL.out]; simpa using H.out.buf, H.out.fr⟩

theorem putOf_5 (n num : Int) (text : ByteArray) (ks ts : List Int) : putOf 5 n num text ks ts = [4] ++ [n - 1] ++ [num] := by simp [putOf]
set_option maxHeartbeats 2000000 in
theorem put_5 (B b : Nat) (xs : List Int) (n num : Int) (text : ByteArray) (A4 A5 : Option Addr) (c4 c5 : Nat) (ks ts : List Int) (z : World) (hbuf : Buf B b xs z) (hBz : B ≤ z.heap.size)
    (h4 : ReadsInt z .i64 A4 ks.length ks) (h5 : ReadsInt z .i64 A5 ts.length ts) (hA4 : 0 < ks.length → ∀ ad, A4 = some ad → ad.block < B) (hA5 : 0 < ts.length → ∀ ad, A5 = some ad → ad.block < B)
    (hlim : xs.length + 70000 ≤ 140737488355328) (hp : plainB 5 n num text ks ts = true) :
    Calls Tryd.prog 19 #[.pointer (some ⟨b, 0, none⟩), .agg #[.int .u8 5, .int .u8 n, .int .i64 num, .string text, .slice A4 ks.length c4, .slice A5 ts.length c5]] z (PutPost z B b (xs ++ putOf 5 n num text ks ts)) := by
  obtain ⟨_, _, hno, hsm, hnu, hts, htx, hle, hl8, hcr, hbad⟩ := (plainB_iff _ _ _ _ _ _).1 hp
  obtain ⟨L, hL⟩ : ∃ L, L = xs ++ putOf 5 n num text ks ts := ⟨_, rfl⟩
  rw [← hL]
  rw [putOf_5] at hL
  have HL := Aside0.mk hL
  have H : Aside0 (PS z (z.alloc (.cells #[.int .u8 5, .int .u8 n, .int .i64 num, .string text, .slice A4 ks.length c4, .slice A5 ts.length c5] 26)) B b z.heap.size xs #[.int .u8 5, .int .u8 n, .int .i64 num, .string text, .slice A4 ks.length c4, .slice A5 ts.length c5]) :=
    ⟨⟨hbuf.alloc _, blk_new _ _, by have := hbuf.lt; omega, (Below.refl B z).alloc hBz _, Nat.le_trans hBz (below_alloc (Below.refl _ z) _).size⟩⟩
  have hn1 : 1 ≤ n := by simp [nodeOk] at hno; omega
  have hn5 : n ≤ 5 := by simp [nodeOk] at hno; omega
  have hm0 : 0 ≤ num := by simp [sml] at hsm; omega
  have hm1 : num ≤ 255 := by simp [sml] at hsm; omega
  clear hbuf h4 h5 hA4 hA5 hno hsm hnu htx hle hcr hbad hp hL
  go_enter Tryd.func19, Tryd.ntmps19
  go_wp2_with fail
  refine (takes_5 _).mono ?_
  rintro e w1 ⟨rfl, rfl⟩
  go_wp2_with fail
  refine (Tryd.Buffer_WriteByte_k B b (nums .u8 (xs)) (4) _ H.out.buf H.out.sz (one_nums _) (by simp only [nums_length, List.length_append, List.length_cons, List.length_nil]; omega)).mono ?_
  rintro e w2 ⟨rfl, hi, hb, hk⟩
  have n0_ := Aside0.mk (H.out.call (Buf.byte hi) hb hk)
  clear H hi hb hk
  have H := n0_
  clear n0_
  have c1 := H.out.cell 1 (v := .int .u8 n) rfl
  go_wp2_with fail
  refine (Tryd.Buffer_WriteByte_k B b (nums .u8 (xs ++ [4])) (n - 1) _ H.out.buf H.out.sz (one_nums _) (by simp only [nums_length, List.length_append, List.length_cons, List.length_nil]; omega)).mono ?_
  rintro e w2 ⟨rfl, hi, hb, hk⟩
  have n0_ := Aside0.mk (H.out.call (Buf.byte hi) hb hk)
  clear H hi hb hk
  have H := n0_
  clear n0_
  have c2 := H.out.cell 2 (v := .int .i64 num) rfl
  go_wp2_with fail
  refine (Tryd.Buffer_WriteByte_k B b (nums .u8 (xs ++ [4] ++ [n - 1])) (num) _ H.out.buf H.out.sz (one_nums _) (by simp only [nums_length, List.length_append, List.length_cons, List.length_nil]; omega)).mono ?_
  rintro e w2 ⟨rfl, hi, hb, hk⟩
  have n0_ := Aside0.mk (H.out.call (Buf.byte hi) hb hk)
  clear H hi hb hk
  have H := n0_
  clear n0_
  go_wp2
  go_end0
  exact ⟨rfl, by rw [HL.out]; simpa using H.out.buf, H.out.fr⟩

theorem putOf_6 (n num : Int) (text : ByteArray) (ks ts : List Int) : putOf 6 n num text ks ts = [5] ++ [n - 1] ++ [num] ++ ([(ks.length : Int)] ++ pairBytes ks ts) := by simp [putOf]
set_option maxHeartbeats 2000000 in
theorem put_6 (B b : Nat) (xs : List Int) (n num : Int) (text : ByteArray) (A4 A5 : Option Addr) (c4 c5 : Nat) (ks ts : List Int) (z : World) (hbuf : Buf B b xs z) (hBz : B ≤ z.heap.size)
    (h4 : ReadsInt z .i64 A4 ks.length ks) (h5 : ReadsInt z .i64 A5 ts.length ts) (hA4 : 0 < ks.length → ∀ ad, A4 = some ad → ad.block < B) (hA5 : 0 < ts.length → ∀ ad, A5 = some ad → ad.block < B)
    (hlim : xs.length + 70000 ≤ 140737488355328) (hp : plainB 6 n num text ks ts = true) :
    Calls Tryd.prog 19 #[.pointer (some ⟨b, 0, none⟩), .agg #[.int .u8 6, .int .u8 n, .int .i64 num, .string text, .slice A4 ks.length c4, .slice A5 ts.length c5]] z (PutPost z B b (xs ++ putOf 6 n num text ks ts)) := by
  obtain ⟨_, _, hno, hsm, hnu, hts, htx, hle, hl8, hcr, hbad⟩ := (plainB_iff _ _ _ _ _ _).1 hp
  obtain ⟨L, hL⟩ : ∃ L, L = xs ++ putOf 6 n num text ks ts := ⟨_, rfl⟩
  rw [← hL]
  rw [putOf_6] at hL
  have HL := Aside0.mk hL
  have H : Aside0 (PS z (z.alloc (.cells #[.int .u8 6, .int .u8 n, .int .i64 num, .string text, .slice A4 ks.length c4, .slice A5 ts.length c5] 26)) B b z.heap.size xs #[.int .u8 6, .int .u8 n, .int .i64 num, .string text, .slice A4 ks.length c4, .slice A5 ts.length c5]) :=
    ⟨⟨hbuf.alloc _, blk_new _ _, by have := hbuf.lt; omega, (Below.refl B z).alloc hBz _, Nat.le_trans hBz (below_alloc (Below.refl _ z) _).size⟩⟩
  have hn1 : 1 ≤ n := by simp [nodeOk] at hno; omega
  have hn5 : n ≤ 5 := by simp [nodeOk] at hno; omega
  have hm0 : 0 ≤ num := by simp [sml] at hsm; omega
  have hm1 : num ≤ 255 := by simp [sml] at hsm; omega
  have HLE := Aside0.mk hle
  have HBAD := Aside0.mk hbad
  have H4 := Aside0.mk h4
  have H5 := Aside0.mk h5
  have HA4 := Aside0.mk hA4
  have HA5 := Aside0.mk hA5
  clear hbuf h4 h5 hA4 hA5 hno hsm hnu htx hle hcr hbad hp hL
  go_enter Tryd.func19, Tryd.ntmps19
  go_wp2_with fail
  refine (takes_6 _).mono ?_
  rintro e w1 ⟨rfl, rfl⟩
  go_wp2_with fail
  refine (Tryd.Buffer_WriteByte_k B b (nums .u8 (xs)) (5) _ H.out.buf H.out.sz (one_nums _) (by simp only [nums_length, List.length_append, List.length_cons, List.length_nil]; omega)).mono ?_
  rintro e w2 ⟨rfl, hi, hb, hk⟩
  have n0_ := Aside0.mk (H.out.call (Buf.byte hi) hb hk)
  clear H hi hb hk
  have H := n0_
  clear n0_
  have c1 := H.out.cell 1 (v := .int .u8 n) rfl
  go_wp2_with fail
  refine (Tryd.Buffer_WriteByte_k B b (nums .u8 (xs ++ [5])) (n - 1) _ H.out.buf H.out.sz (one_nums _) (by simp only [nums_length, List.length_append, List.length_cons, List.length_nil]; omega)).mono ?_
  rintro e w2 ⟨rfl, hi, hb, hk⟩
  have n0_ := Aside0.mk (H.out.call (Buf.byte hi) hb hk)
  clear H hi hb hk
  have H := n0_
  clear n0_
  have c2 := H.out.cell 2 (v := .int .i64 num) rfl
  go_wp2_with fail
  refine (Tryd.Buffer_WriteByte_k B b (nums .u8 (xs ++ [5] ++ [n - 1])) (num) _ H.out.buf H.out.sz (one_nums _) (by simp only [nums_length, List.length_append, List.length_cons, List.length_nil]; omega)).mono ?_
  rintro e w2 ⟨rfl, hi, hb, hk⟩
  have n0_ := Aside0.mk (H.out.call (Buf.byte hi) hb hk)
  clear H hi hb hk
  have H := n0_
  clear n0_
  have c4_ := H.out.cell 4 (v := .slice A4 ks.length c4) rfl
  go_wp2_with fail
  refine (Tryd.Buffer_WriteByte_k B b (nums .u8 (xs ++ [5] ++ [n - 1] ++ [num])) ((ks.length : Int)) _ H.out.buf H.out.sz (one_nums _) (by simp only [nums_length, List.length_append, List.length_cons, List.length_nil]; omega)).mono ?_
  rintro e w2 ⟨rfl, hi, hb, hk⟩
  have n0_ := Aside0.mk (H.out.call (Buf.byte hi) hb hk)
  clear H hi hb hk
  have H := n0_
  clear n0_
  have c4_ := H.out.cell 4 (v := .slice A4 ks.length c4) rfl
  go_wp2
  clear c4_
  go_loopg [71] ks.length (fun kq v71 wr => ∃ j : Nat, v71 = .int .i64 (j : Int) ∧ j + kq = ks.length ∧ Aside0 (PS z wr B b z.heap.size (xs ++ [5] ++ [n - 1] ++ [num] ++ [(ks.length : Int)] ++ pairBytes (ks.take j) (ts.take j)) #[.int .u8 6, .int .u8 n, .int .i64 num, .string text, .slice A4 ks.length c4, .slice A5 ts.length c5]))
  case atStart => exact ⟨0, rfl, by omega, ⟨by simpa [pairBytes] using H.out⟩⟩
  case round =>
    clear H
    obtain ⟨j, rfl, hjk, H⟩ := hrel
    by_cases hlt : j < ks.length
    · have hlt5 : j < ts.length := by have := HLE.out; omega
      obtain ⟨a4, rfl, r4⟩ := (reads_move H4.out HA4.out H.out.fr.block).2.2 (by omega)
      obtain ⟨a5, rfl, r5⟩ := (reads_move H5.out HA5.out H.out.fr.block).2.2 (by omega)
      have x4 : wr.cell? (a4.add j) = some (.int .i64 (ks.getD j 0)) := r4 j hlt
      have x5 : wr.cell? (a5.add j) = some (.int .i64 (ts.getD j 0)) := r5 j hlt5
      have hm4 : ks.getD j 0 ∈ ks := by rw [List.getD_eq_getElem?_getD, List.getElem?_eq_getElem hlt]; exact List.getElem_mem hlt
      have hm5 : ts.getD j 0 ∈ ts := by rw [List.getD_eq_getElem?_getD, List.getElem?_eq_getElem hlt5]; exact List.getElem_mem hlt5
      obtain ⟨p0, p1⟩ := good_of HBAD.out (List.mem_append_left _ hm4)
      obtain ⟨q0, q1⟩ := good_of HBAD.out (List.mem_append_right _ hm5)
      have HPB := Aside0.mk (pairBytes_snoc ks ts j hlt hlt5)
      have HJ := Aside0.mk hjk
      clear r4 r5 hm4 hm5 hjk
      generalize ks.getD j 0 = x at *
      generalize ts.getD j 0 = y at *
      have c4_ := H.out.cell 4 (v := .slice (some a4) ks.length c4) rfl
      have c5_ := H.out.cell 5 (v := .slice (some a5) ts.length c5) rfl
      have hpl : (pairBytes (ks.take j) (ts.take j)).length ≤ 14 := by
        have h1 := pairBytes_len (ks.take j) (ts.take j)
        simp only [List.length_take] at h1
        omega
      go_wp2_with fail
      refine (Tryd.Buffer_Write_any B b (nums .u8 (xs ++ [5] ++ [n - 1] ++ [num] ++ [(ks.length : Int)] ++ pairBytes (ks.take j) (ts.take j))) (nums .u8 [x, y]) _ 2 2 _ (H.out.alloc _).buf (H.out.alloc _).sz (one_nums _) rfl ?hab ?hsrc (one_nums _) (by simp only [nums_length, List.length_append, List.length_cons, List.length_nil]; omega)).mono ?_
      case hab => have := H.out.buf.lt; simp; omega
      case hsrc =>
        intro i v hi
        rw [add_plain]
        exact (blk_cell (blk_new _ _) i).trans (by simpa [nums] using hi)
      rintro e w3 ⟨rfl, hi, hb, hk⟩
      have n0_ := Aside0.mk ((H.out.alloc _).call (Buf.bytes hi) hb hk)
      clear H hi hb hk c4_ c5_
      have H := n0_
      clear n0_
      go_wp2
      go_roundg (gk - 1)
      case measure => have := HJ.out; omega
      case rel => exact ⟨j + 1, by go_num, by have := HJ.out; omega, ⟨by rw [HPB.out]; simpa using H.out⟩⟩
    · have hjn : j = ks.length := by omega
      have HJ := Aside0.mk hjn
      have HLE2 := Aside0.mk (show ts.take j = ts by rw [hjn, HLE.out]; exact List.take_length)
      have HLE3 := Aside0.mk (show ks.take j = ks by rw [hjn]; exact List.take_length)
      clear hjn hjk
      go_wp2
      go_end0
      exact ⟨rfl, by rw [HL.out]; have h := H.out.buf; rw [HLE2.out, HLE3.out] at h; simpa using h, H.out.fr⟩

theorem putOf_7 (n num : Int) (text : ByteArray) (ks ts : List Int) : putOf 7 n num text ks ts = [6] ++ [n - 1] ++ ([(ks.length : Int)] ++ pairBytes ks ts) := by simp [putOf]
set_option maxHeartbeats 2000000 in
theorem put_7 (B b : Nat) (xs : List Int) (n num : Int) (text : ByteArray) (A4 A5 : Option Addr) (c4 c5 : Nat) (ks ts : List Int) (z : World) (hbuf : Buf B b xs z) (hBz : B ≤ z.heap.size)
    (h4 : ReadsInt z .i64 A4 ks.length ks) (h5 : ReadsInt z .i64 A5 ts.length ts) (hA4 : 0 < ks.length → ∀ ad, A4 = some ad → ad.block < B) (hA5 : 0 < ts.length → ∀ ad, A5 = some ad → ad.block < B)
    (hlim : xs.length + 70000 ≤ 140737488355328) (hp : plainB 7 n num text ks ts = true) :
    Calls Tryd.prog 19 #[.pointer (some ⟨b, 0, none⟩), .agg #[.int .u8 7, .int .u8 n, .int .i64 num, .string text, .slice A4 ks.length c4, .slice A5 ts.length c5]] z (PutPost z B b (xs ++ putOf 7 n num text ks ts)) := by
  obtain ⟨_, _, hno, hsm, hnu, hts, htx, hle, hl8, hcr, hbad⟩ := (plainB_iff _ _ _ _ _ _).1 hp
  obtain ⟨L, hL⟩ : ∃ L, L = xs ++ putOf 7 n num text ks ts := ⟨_, rfl⟩
  rw [← hL]
  rw [putOf_7] at hL
  have HL := Aside0.mk hL
  have H : Aside0 (PS z (z.alloc (.cells #[.int .u8 7, .int .u8 n, .int .i64 num, .string text, .slice A4 ks.length c4, .slice A5 ts.length c5] 26)) B b z.heap.size xs #[.int .u8 7, .int .u8 n, .int .i64 num, .string text, .slice A4 ks.length c4, .slice A5 ts.length c5]) :=
    ⟨⟨hbuf.alloc _, blk_new _ _, by have := hbuf.lt; omega, (Below.refl B z).alloc hBz _, Nat.le_trans hBz (below_alloc (Below.refl _ z) _).size⟩⟩
  have hn1 : 1 ≤ n := by simp [nodeOk] at hno; omega
  have hn5 : n ≤ 5 := by simp [nodeOk] at hno; omega
  have HLE := Aside0.mk hle
  have HBAD := Aside0.mk hbad
  have H4 := Aside0.mk h4
  have H5 := Aside0.mk h5
  have HA4 := Aside0.mk hA4
  have HA5 := Aside0.mk hA5
  clear hbuf h4 h5 hA4 hA5 hno hsm hnu htx hle hcr hbad hp hL
  go_enter Tryd.func19, Tryd.ntmps19
  go_wp2_with fail
  refine (takes_7 _).mono ?_
  rintro e w1 ⟨rfl, rfl⟩
  go_wp2_with fail
  refine (Tryd.Buffer_WriteByte_k B b (nums .u8 (xs)) (6) _ H.out.buf H.out.sz (one_nums _) (by simp only [nums_length, List.length_append, List.length_cons, List.length_nil]; omega)).mono ?_
  rintro e w2 ⟨rfl, hi, hb, hk⟩
  have n0_ := Aside0.mk (H.out.call (Buf.byte hi) hb hk)
  clear H hi hb hk
  have H := n0_
  clear n0_
  have c1 := H.out.cell 1 (v := .int .u8 n) rfl
  go_wp2_with fail
  refine (Tryd.Buffer_WriteByte_k B b (nums .u8 (xs ++ [6])) (n - 1) _ H.out.buf H.out.sz (one_nums _) (by simp only [nums_length, List.length_append, List.length_cons, List.length_nil]; omega)).mono ?_
  rintro e w2 ⟨rfl, hi, hb, hk⟩
  have n0_ := Aside0.mk (H.out.call (Buf.byte hi) hb hk)
  clear H hi hb hk
  have H := n0_
  clear n0_
  have c4_ := H.out.cell 4 (v := .slice A4 ks.length c4) rfl
  go_wp2_with fail
  refine (Tryd.Buffer_WriteByte_k B b (nums .u8 (xs ++ [6] ++ [n - 1])) ((ks.length : Int)) _ H.out.buf H.out.sz (one_nums _) (by simp only [nums_length, List.length_append, List.length_cons, List.length_nil]; omega)).mono ?_
  rintro e w2 ⟨rfl, hi, hb, hk⟩
  have n0_ := Aside0.mk (H.out.call (Buf.byte hi) hb hk)
  clear H hi hb hk
  have H := n0_
  clear n0_
  have c4_ := H.out.cell 4 (v := .slice A4 ks.length c4) rfl
  go_wp2
  clear c4_
  go_loopg [71] ks.length (fun kq v71 wr => ∃ j : Nat, v71 = .int .i64 (j : Int) ∧ j + kq = ks.length ∧ Aside0 (PS z wr B b z.heap.size (xs ++ [6] ++ [n - 1] ++ [(ks.length : Int)] ++ pairBytes (ks.take j) (ts.take j)) #[.int .u8 7, .int .u8 n, .int .i64 num, .string text, .slice A4 ks.length c4, .slice A5 ts.length c5]))
  case atStart => exact ⟨0, rfl, by omega, ⟨by simpa [pairBytes] using H.out⟩⟩
  case round =>
    clear H
    obtain ⟨j, rfl, hjk, H⟩ := hrel
    by_cases hlt : j < ks.length
    · have hlt5 : j < ts.length := by have := HLE.out; omega
      obtain ⟨a4, rfl, r4⟩ := (reads_move H4.out HA4.out H.out.fr.block).2.2 (by omega)
      obtain ⟨a5, rfl, r5⟩ := (reads_move H5.out HA5.out H.out.fr.block).2.2 (by omega)
      have x4 : wr.cell? (a4.add j) = some (.int .i64 (ks.getD j 0)) := r4 j hlt
      have x5 : wr.cell? (a5.add j) = some (.int .i64 (ts.getD j 0)) := r5 j hlt5
      have hm4 : ks.getD j 0 ∈ ks := by rw [List.getD_eq_getElem?_getD, List.getElem?_eq_getElem hlt]; exact List.getElem_mem hlt
      have hm5 : ts.getD j 0 ∈ ts := by rw [List.getD_eq_getElem?_getD, List.getElem?_eq_getElem hlt5]; exact List.getElem_mem hlt5
      obtain ⟨p0, p1⟩ := good_of HBAD.out (List.mem_append_left _ hm4)
      obtain ⟨q0, q1⟩ := good_of HBAD.out (List.mem_append_right _ hm5)
      have HPB := Aside0.mk (pairBytes_snoc ks ts j hlt hlt5)
      have HJ := Aside0.mk hjk
      clear r4 r5 hm4 hm5 hjk
      generalize ks.getD j 0 = x at *
      generalize ts.getD j 0 = y at *
      have c4_ := H.out.cell 4 (v := .slice (some a4) ks.length c4) rfl
      have c5_ := H.out.cell 5 (v := .slice (some a5) ts.length c5) rfl
      have hpl : (pairBytes (ks.take j) (ts.take j)).length ≤ 14 := by
        have h1 := pairBytes_len (ks.take j) (ts.take j)
        simp only [List.length_take] at h1
        omega
      go_wp2_with fail
      refine (Tryd.Buffer_Write_any B b (nums .u8 (xs ++ [6] ++ [n - 1] ++ [(ks.length : Int)] ++ pairBytes (ks.take j) (ts.take j))) (nums .u8 [x, y]) _ 2 2 _ (H.out.alloc _).buf (H.out.alloc _).sz (one_nums _) rfl ?hab ?hsrc (one_nums _) (by simp only [nums_length, List.length_append, List.length_cons, List.length_nil]; omega)).mono ?_
      case hab => have := H.out.buf.lt; simp; omega
      case hsrc =>
        intro i v hi
        rw [add_plain]
        exact (blk_cell (blk_new _ _) i).trans (by simpa [nums] using hi)
      rintro e w3 ⟨rfl, hi, hb, hk⟩
      have n0_ := Aside0.mk ((H.out.alloc _).call (Buf.bytes hi) hb hk)
      clear H hi hb hk c4_ c5_
      have H := n0_
      clear n0_
      go_wp2
      go_roundg (gk - 1)
      case measure => have := HJ.out; omega
      case rel => exact ⟨j + 1, by go_num, by have := HJ.out; omega, ⟨by rw [HPB.out]; simpa using H.out⟩⟩
    · have hjn : j = ks.length := by omega
      have HJ := Aside0.mk hjn
      have HLE2 := Aside0.mk (show ts.take j = ts by rw [hjn, HLE.out]; exact List.take_length)
      have HLE3 := Aside0.mk (show ks.take j = ks by rw [hjn]; exact List.take_length)
      clear hjn hjk
      go_wp2
      go_end0
      exact ⟨rfl, by rw [HL.out]; have h := H.out.buf; rw [HLE2.out, HLE3.out] at h; simpa using h, H.out.fr⟩

theorem putOf_8 (n num : Int) (text : ByteArray) (ks ts : List Int) : putOf 8 n num text ks ts = [7] ++ [n - 1] := by simp [putOf]
set_option maxHeartbeats 2000000 in
theorem put_8 (B b : Nat) (xs : List Int) (n num : Int) (text : ByteArray) (A4 A5 : Option Addr) (c4 c5 : Nat) (ks ts : List Int) (z : World) (hbuf : Buf B b xs z) (hBz : B ≤ z.heap.size)
    (h4 : ReadsInt z .i64 A4 ks.length ks) (h5 : ReadsInt z .i64 A5 ts.length ts) (hA4 : 0 < ks.length → ∀ ad, A4 = some ad → ad.block < B) (hA5 : 0 < ts.length → ∀ ad, A5 = some ad → ad.block < B)
    (hlim : xs.length + 70000 ≤ 140737488355328) (hp : plainB 8 n num text ks ts = true) :
    Calls Tryd.prog 19 #[.pointer (some ⟨b, 0, none⟩), .agg #[.int .u8 8, .int .u8 n, .int .i64 num, .string text, .slice A4 ks.length c4, .slice A5 ts.length c5]] z (PutPost z B b (xs ++ putOf 8 n num text ks ts)) := by
  obtain ⟨_, _, hno, hsm, hnu, hts, htx, hle, hl8, hcr, hbad⟩ := (plainB_iff _ _ _ _ _ _).1 hp
  obtain ⟨L, hL⟩ : ∃ L, L = xs ++ putOf 8 n num text ks ts := ⟨_, rfl⟩
  rw [← hL]
  rw [putOf_8] at hL
  have HL := Aside0.mk hL
  have H : Aside0 (PS z (z.alloc (.cells #[.int .u8 8, .int .u8 n, .int .i64 num, .string text, .slice A4 ks.length c4, .slice A5 ts.length c5] 26)) B b z.heap.size xs #[.int .u8 8, .int .u8 n, .int .i64 num, .string text, .slice A4 ks.length c4, .slice A5 ts.length c5]) :=
    ⟨⟨hbuf.alloc _, blk_new _ _, by have := hbuf.lt; omega, (Below.refl B z).alloc hBz _, Nat.le_trans hBz (below_alloc (Below.refl _ z) _).size⟩⟩
  have hn1 : 1 ≤ n := by simp [nodeOk] at hno; omega
  have hn5 : n ≤ 5 := by simp [nodeOk] at hno; omega
  clear hbuf h4 h5 hA4 hA5 hno hsm hnu htx hle hcr hbad hp hL
  go_enter Tryd.func19, Tryd.ntmps19
  go_wp2_with fail
  refine (takes_8 _).mono ?_
  rintro e w1 ⟨rfl, rfl⟩
  go_wp2_with fail
  refine (Tryd.Buffer_WriteByte_k B b (nums .u8 (xs)) (7) _ H.out.buf H.out.sz (one_nums _) (by simp only [nums_length, List.length_append, List.length_cons, List.length_nil]; omega)).mono ?_
  rintro e w2 ⟨rfl, hi, hb, hk⟩
  have n0_ := Aside0.mk (H.out.call (Buf.byte hi) hb hk)
  clear H hi hb hk
  have H := n0_
  clear n0_
  have c1 := H.out.cell 1 (v := .int .u8 n) rfl
  go_wp2_with fail
  refine (Tryd.Buffer_WriteByte_k B b (nums .u8 (xs ++ [7])) (n - 1) _ H.out.buf H.out.sz (one_nums _) (by simp only [nums_length, List.length_append, List.length_cons, List.length_nil]; omega)).mono ?_
  rintro e w2 ⟨rfl, hi, hb, hk⟩
  have n0_ := Aside0.mk (H.out.call (Buf.byte hi) hb hk)
  clear H hi hb hk
  have H := n0_
  clear n0_
  go_wp2
  go_end0
  exact ⟨rfl, by rw [HL.out]; simpa using H.out.buf, H.out.fr⟩

theorem putOf_9 (n num : Int) (text : ByteArray) (ks ts : List Int) : putOf 9 n num text ks ts = [8] ++ [n] ++ [num] := by simp [putOf]
set_option maxHeartbeats 2000000 in
theorem put_9 (B b : Nat) (xs : List Int) (n num : Int) (text : ByteArray) (A4 A5 : Option Addr) (c4 c5 : Nat) (ks ts : List Int) (z : World) (hbuf : Buf B b xs z) (hBz : B ≤ z.heap.size)
    (h4 : ReadsInt z .i64 A4 ks.length ks) (h5 : ReadsInt z .i64 A5 ts.length ts) (hA4 : 0 < ks.length → ∀ ad, A4 = some ad → ad.block < B) (hA5 : 0 < ts.length → ∀ ad, A5 = some ad → ad.block < B)
    (hlim : xs.length + 70000 ≤ 140737488355328) (hp : plainB 9 n num text ks ts = true) :
    Calls Tryd.prog 19 #[.pointer (some ⟨b, 0, none⟩), .agg #[.int .u8 9, .int .u8 n, .int .i64 num, .string text, .slice A4 ks.length c4, .slice A5 ts.length c5]] z (PutPost z B b (xs ++ putOf 9 n num text ks ts)) := by
  obtain ⟨_, _, hno, hsm, hnu, hts, htx, hle, hl8, hcr, hbad⟩ := (plainB_iff _ _ _ _ _ _).1 hp
  obtain ⟨L, hL⟩ : ∃ L, L = xs ++ putOf 9 n num text ks ts := ⟨_, rfl⟩
  rw [← hL]
  rw [putOf_9] at hL
  have HL := Aside0.mk hL
  have H : Aside0 (PS z (z.alloc (.cells #[.int .u8 9, .int .u8 n, .int .i64 num, .string text, .slice A4 ks.length c4, .slice A5 ts.length c5] 26)) B b z.heap.size xs #[.int .u8 9, .int .u8 n, .int .i64 num, .string text, .slice A4 ks.length c4, .slice A5 ts.length c5]) :=
    ⟨⟨hbuf.alloc _, blk_new _ _, by have := hbuf.lt; omega, (Below.refl B z).alloc hBz _, Nat.le_trans hBz (below_alloc (Below.refl _ z) _).size⟩⟩
  have hn5 : n < 32 := by simp [nodeOk] at hno; omega
  have hm0 : 0 ≤ num := by simp [sml] at hsm; omega
  have hm1 : num ≤ 255 := by simp [sml] at hsm; omega
  clear hbuf h4 h5 hA4 hA5 hno hsm hnu htx hle hcr hbad hp hL
  go_enter Tryd.func19, Tryd.ntmps19
  go_wp2_with fail
  refine (takes_9 _).mono ?_
  rintro e w1 ⟨rfl, rfl⟩
  go_wp2_with fail
  refine (Tryd.Buffer_WriteByte_k B b (nums .u8 (xs)) (8) _ H.out.buf H.out.sz (one_nums _) (by simp only [nums_length, List.length_append, List.length_cons, List.length_nil]; omega)).mono ?_
  rintro e w2 ⟨rfl, hi, hb, hk⟩
  have n0_ := Aside0.mk (H.out.call (Buf.byte hi) hb hk)
  clear H hi hb hk
  have H := n0_
  clear n0_
  have c1 := H.out.cell 1 (v := .int .u8 n) rfl
  go_wp2_with fail
  refine (Tryd.Buffer_WriteByte_k B b (nums .u8 (xs ++ [8])) (n) _ H.out.buf H.out.sz (one_nums _) (by simp only [nums_length, List.length_append, List.length_cons, List.length_nil]; omega)).mono ?_
  rintro e w2 ⟨rfl, hi, hb, hk⟩
  have n0_ := Aside0.mk (H.out.call (Buf.byte hi) hb hk)
  clear H hi hb hk
  have H := n0_
  clear n0_
  have c2 := H.out.cell 2 (v := .int .i64 num) rfl
  go_wp2_with fail
  refine (Tryd.Buffer_WriteByte_k B b (nums .u8 (xs ++ [8] ++ [n])) (num) _ H.out.buf H.out.sz (one_nums _) (by simp only [nums_length, List.length_append, List.length_cons, List.length_nil]; omega)).mono ?_
  rintro e w2 ⟨rfl, hi, hb, hk⟩
  have n0_ := Aside0.mk (H.out.call (Buf.byte hi) hb hk)
  clear H hi hb hk
  have H := n0_
  clear n0_
  go_wp2
  go_end0
  exact ⟨rfl, by rw [HL.out]; simpa using H.out.buf, H.out.fr⟩

theorem put_any (B b : Nat) (xs : List Int) (k n num : Int) (text : ByteArray) (A4 A5 : Option Addr) (c4 c5 : Nat) (ks ts : List Int) (z : World) (hbuf : Buf B b xs z) (hBz : B ≤ z.heap.size)
    (h4 : ReadsInt z .i64 A4 ks.length ks) (h5 : ReadsInt z .i64 A5 ts.length ts) (hA4 : 0 < ks.length → ∀ ad, A4 = some ad → ad.block < B) (hA5 : 0 < ts.length → ∀ ad, A5 = some ad → ad.block < B)
    (hlim : xs.length + 70000 ≤ 140737488355328) (hp : plainB k n num text ks ts = true) :
    Calls Tryd.prog 19 #[.pointer (some ⟨b, 0, none⟩), .agg #[.int .u8 k, .int .u8 n, .int .i64 num, .string text, .slice A4 ks.length c4, .slice A5 ts.length c5]] z (PutPost z B b (xs ++ putOf k n num text ks ts)) := by
  have hk := (plainB_iff _ _ _ _ _ _).1 hp
  have h9 : k = 1 ∨ k = 2 ∨ k = 3 ∨ k = 4 ∨ k = 5 ∨ k = 6 ∨ k = 7 ∨ k = 8 ∨ k = 9 := by omega
  rcases h9 with rfl | rfl | rfl | rfl | rfl | rfl | rfl | rfl | rfl
  · exact put_1 B b xs n num text A4 A5 c4 c5 ks ts z hbuf hBz h4 h5 hA4 hA5 hlim hp
  · exact put_2 B b xs n num text A4 A5 c4 c5 ks ts z hbuf hBz h4 h5 hA4 hA5 hlim hp
  · exact put_3 B b xs n num text A4 A5 c4 c5 ks ts z hbuf hBz h4 h5 hA4 hA5 hlim hp
  · exact put_4 B b xs n num text A4 A5 c4 c5 ks ts z hbuf hBz h4 h5 hA4 hA5 hlim hp
  · exact put_5 B b xs n num text A4 A5 c4 c5 ks ts z hbuf hBz h4 h5 hA4 hA5 hlim hp
  · exact put_6 B b xs n num text A4 A5 c4 c5 ks ts z hbuf hBz h4 h5 hA4 hA5 hlim hp
  · exact put_7 B b xs n num text A4 A5 c4 c5 ks ts z hbuf hBz h4 h5 hA4 hA5 hlim hp
  · exact put_8 B b xs n num text A4 A5 c4 c5 ks ts z hbuf hBz h4 h5 hA4 hA5 hlim hp
  · exact put_9 B b xs n num text A4 A5 c4 c5 ks ts z hbuf hBz h4 h5 hA4 hA5 hlim hp

#print axioms put_any
end Go.Proofs.YtahfcdlggaoakaaDoor.Rd

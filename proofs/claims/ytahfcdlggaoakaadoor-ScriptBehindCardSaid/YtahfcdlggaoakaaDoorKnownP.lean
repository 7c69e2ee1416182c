/- ScriptKnown: its plain laws. -/
import Derived.Test.YtahfcdlggaoakaaDoorKnownB
import Derived.Test.YtahfcdlggaoakaaDoorPlain
import Derived.Deep.Upon
namespace Go.Proofs.YtahfcdlggaoakaaDoor.Rd
open Go.RowKit Go.Proofs.YtahfcdlggaoakaaDoorW.PrintWords Go.Proofs.YtahfcdlggaoakaaDoorW.PrintLast Go.Proofs.YtahfcdlggaoakaaDoorW.PrintMore
open Go.Proofs.YtahfcdlggaoakaaDoor.PScriptDecodes
set_option linter.unusedVariables false
set_option linter.unusedSimpArgs false

theorem bad_one (t : ByteArray) (ht : t.size = 65536) : ∀ a ∈ badActs t, okA a ∧ plainA a = false := by
  intro a ha
  simp only [badActs, List.mem_cons, List.not_mem_nil, or_false] at ha
  rcases ha with rfl | rfl | rfl | rfl | rfl | rfl | rfl | rfl | rfl | rfl | rfl | rfl | rfl | rfl
  all_goals first | exact ⟨⟨by decide, by decide, by decide⟩, by rfl⟩ | skip
  refine ⟨⟨⟨show (0:Int) ≤ 1 by decide, show (1:Int) ≤ 255 by decide⟩, show (0:Int) ≤ 1 by decide, show (1:Int) ≤ 255 by decide⟩, ?_⟩
  simp [plainA, plainB, ht]
theorem bad_enc (a : S26) (h : plainA a = false) : enc [a] = ([], 1) := by simp [enc, h]
theorem bad_len (t : ByteArray) : (badActs t).length = 14 := rfl

def dAct : S26 := ⟨2, 0, 1, ⟨#[]⟩, ⟨[], []⟩⟩
def ones : List Int := List.replicate 809 1
def manyA : List S26 := List.replicate 400 dAct
set_option maxRecDepth 100000
theorem dec_many : dec 400 ones = manyA := by kernel_rfl
theorem enc_many2 : (enc manyA).2 = 0 := by kernel_rfl
theorem enc_many1 : (enc manyA).1.length = 800 := by kernel_rfl
theorem len_many : manyA.length = 400 := List.length_replicate
theorem enc_more : enc (manyA ++ [dAct]) = ([], 3) := by
  unfold enc
  rw [if_pos (by rw [List.length_append, len_many]; decide)]
theorem ok_dAct : okA dAct := ⟨⟨by decide, by decide⟩, by decide, by decide⟩
theorem ok_many : ∀ a ∈ manyA, okA a := fun a h => by rw [(List.mem_replicate.1 h).2]; exact ok_dAct
theorem ok_more : ∀ a ∈ manyA ++ [dAct], okA a := fun a h => by
  rcases List.mem_append.1 h with h | h
  · exact ok_many a h
  · rw [List.mem_singleton.1 h]; exact ok_dAct
theorem len_ones : ones.length = 809 := List.length_replicate
theorem ones_bs : ∀ x ∈ ones, 0 ≤ x ∧ x ≤ 255 := fun x h => by rw [(List.mem_replicate.1 h).2]; decide

/-- A row of one's own, as what is appended to asks it. -/
theorem came_own {W : World} {base : Nat} {e : TypeId} {size n : Nat} {v : Value} {xs : List Value} (h : W.ownsRow base e size v n xs) (hn : 0 < n) :
    ∃ g cap, v = .slice (some ⟨g, 0, none⟩) n cap ∧ Came W size (some ⟨g, 0, none⟩) g 0 n cap xs ∧ n ≤ cap ∧ cap ≤ maxLen ∧ g < W.heap.size := by
  obtain ⟨hl, h⟩ := h
  rcases h with ⟨_, h0⟩ | ⟨g, cap, cur, rfl, hb, hg, hc, hm, hs, ht⟩
  · omega
  · have hlt : g < W.heap.size := blk_lt hg
    refine ⟨g, cap, rfl, ⟨hc, fun _ => rfl, fun _ => hlt, hl, fun j u hj => ?_, fun j hj => ⟨?_, ?_⟩⟩, hc, hm, hlt⟩
    · rw [Nat.zero_add, cell_of_row W g j _ _ _ hg]
      rw [← ht] at hj
      rw [List.getElem?_take] at hj
      split at hj
      · simpa using hj
      · cases hj
    · rw [Nat.zero_add, cell_of_row W g _ _ _ _ hg]
      have : n * size + j < cur.size := by rw [hs]; rw [Nat.sub_mul] at hj; omega
      simp [this]
    · simp [World.frozen?, hg]
/-- What a row of bare acts reads as, behind an append: the old row still, and the new one. -/
theorem bare_rows {w : World} {g o n : Nat} {cs : List Value} (hn : n ≤ 9223372036854775807) (h : ∀ j, j < n * 6 → w.cell? ⟨g, o + j, none⟩ = cs[j]?) (hc : ∀ k, k < n → ∃ A4 c4 A5 c5, ∀ i u, ([.int .u8 2, .int .u8 0, .int .i64 1, .string ⟨#[]⟩, .slice A4 0 c4, .slice A5 0 c5] : List Value)[i]? = some u → cs[k * 6 + i]? = some u) :
    Kd.C k26 w (some ⟨g, o, none⟩) n (List.replicate n dAct) := by
  refine ⟨List.length_replicate, hn, fun _ => ⟨_, rfl, fun j p hj => ?_⟩⟩
  rw [List.getElem?_replicate] at hj
  split at hj
  · rename_i hlt
    injection hj with hj
    subst hj
    obtain ⟨A4, c4, A5, c5, hi⟩ := hc j hlt
    refine ⟨_, rfl, k26_mk w dAct (A4 := A4) (c4 := c4) (A5 := A5) (c5 := c5) (Nat.zero_le _) ⟨rfl, by decide, fun h => absurd h (Nat.lt_irrefl 0)⟩ (Nat.zero_le _) ⟨rfl, by decide, fun h => absurd h (Nat.lt_irrefl 0)⟩, fun i u hu => ?_⟩
    have hi6 : i < 6 := by
      rcases Nat.lt_or_ge i 6 with h | h
      · exact h
      · rw [List.getElem?_eq_none (by simpa using h)] at hu; cases hu
    have e6 : k26.sz = 6 := rfl
    rw [e6, show (⟨g, o, none⟩ : Addr).add (j * 6 + i) = ⟨g, o + (j * 6 + i), none⟩ from by simp [Addr.add]]
    rw [h _ (by omega)]
    exact hi i u hu
  · cases hj
def RowShape (n : Nat) (cs : List Value) : Prop := ∀ k, k < n → ∃ A4 c4 A5 c5, ∀ i u, ([.int .u8 2, .int .u8 0, .int .i64 1, .string ⟨#[]⟩, .slice A4 0 c4, .slice A5 0 c5] : List Value)[i]? = some u → cs[k * 6 + i]? = some u
theorem own_bare {W : World} {base n : Nat} {v : Value} {xs : List Value} (h : W.ownsRow base 26 6 v n xs) (hn : 0 < n) (hc : RowShape n xs) :
    ∃ g cap, v = .slice (some ⟨g, 0, none⟩) n cap ∧ Kd.C k26 W (some ⟨g, 0, none⟩) n (List.replicate n dAct) := by
  obtain ⟨g, cap, rfl, hcame, hcl, hcm, _⟩ := came_own h hn
  refine ⟨g, cap, rfl, bare_rows (cs := xs) (Nat.le_trans hcl hcm) (fun j hj => ?_) hc⟩
  have hl : j < xs.length := by rw [h.1]; exact hj
  rw [List.getElem?_eq_getElem hl]
  exact hcame.olds j _ (List.getElem?_eq_getElem hl)
theorem reps_shape {w : World} {base n : Nat} {ok : Nat → Prop} {cs : List Value} (h : Reps (k26.M w base ok) 6 (List.replicate n dAct) cs) : RowShape n cs := by
  intro k hk
  have h1 := h.2 k dAct (by rw [List.getElem?_replicate, if_pos hk])
  obtain ⟨A4, c4, A5, c5, e, _⟩ := k26_open (k26.K_of_M h1)
  refine ⟨A4, c4, A5, c5, fun i u hi => ?_⟩
  have h2 : ([.int .u8 2, .int .u8 0, .int .i64 1, .string ⟨#[]⟩, .slice A4 0 c4, .slice A5 0 c5] : List Value) = (cs.drop (k * 6)).take 6 := e.symm
  rw [h2, List.getElem?_take] at hi
  split at hi
  · rwa [List.getElem?_drop] at hi
  · cases hi
theorem shape_snoc {n : Nat} {cs ys : List Value} (h : RowShape n cs) (hl : cs.length = n * 6) {A4 A5 : Option Addr} {c4 c5 : Nat} (hy : ys = [.int .u8 2, .int .u8 0, .int .i64 1, .string ⟨#[]⟩, .slice A4 0 c4, .slice A5 0 c5]) : RowShape (n + 1) (cs ++ ys) := by
  intro k hk
  rcases Nat.lt_or_ge k n with h' | h'
  · obtain ⟨A, c, B, d, hh⟩ := h k h'
    refine ⟨A, c, B, d, fun i u hi => ?_⟩
    have := hh i u hi
    have hlt : k * 6 + i < cs.length := by
      rcases Nat.lt_or_ge (k * 6 + i) cs.length with h | h
      · exact h
      · rw [List.getElem?_eq_none h] at this; cases this
    rw [List.getElem?_append_left hlt]
    exact this
  · have : k = n := by omega
    subst this
    refine ⟨A4, c4, A5, c5, fun i u hi => ?_⟩
    rw [List.getElem?_append_right (by omega), hl, show k * 6 + i - k * 6 = i by omega, hy]
    exact hi
section
variable {ops : Array Oper} {rest : List Oper} {o : Oper} {a : Act} {Q : Exit → Act → World → Prop}
theorem wp_append_keep {W : World} (base n gl cl : Nat) (inner ys : List Value) (hgd : o.guard = none) (s x : Operand) (ho : o.op = .call { callee := .builtin .append, args := #[s, x], argTypes := #[27, 27] })
    (hown : W.ownsRow base 26 6 (.slice (some ⟨gl, 0, none⟩) n cl) n inner) (hn0 : 0 < n) (hv : a.eval s = .slice (some ⟨gl, 0, none⟩) n cl) (hx : a.eval x = .slice (some ⟨W.heap.size, 0, none⟩) 1 1) (hys : ys.length = 6) (h1 : ∀ u ∈ ys, u.oneCell' = true) (hbase : base ≤ W.heap.size) (hn : n ≤ 1000)
    (hK : ∀ v' w', w'.ownsRow base 26 6 v' (n + 1) (inner ++ ys) → (W.alloc (.cells ys.toArray 26)).grownBy w' (some gl) → (∀ j u, inner[j]? = some u → w'.cell? ⟨gl, j, none⟩ = some u) → wpList Tryd.prog ops Q rest (a.put o.dst v') w') : wpList Tryd.prog ops Q (o :: rest) a (W.alloc (.cells ys.toArray 26)) := by
  obtain ⟨i26, hi, hz0, hz1, hz2⟩ := info_parts info26
  obtain ⟨g, cap, he, hc, hcl, hcm, hgl⟩ := came_own hown hn0
  injection he with e1 _ e3
  injection e1 with e1
  injection e1 with e1
  subst e1 e3
  have hnews : ∀ j u, ys[j]? = some u → (W.alloc (.cells ys.toArray 26)).cell? ((⟨W.heap.size, 0, none⟩ : Addr).add j) = some u := fun j u hj => by
    rw [add_plain, cell_of_row _ _ _ _ _ _ (blk_new W _)]
    simpa using hj
  refine wpList_plain hgd fun K hK' => ?_
  obtain ⟨v', w', hrun, ho1, hg1, _, _⟩ := run_append_own_at (P := Tryd.prog) (W.alloc (.cells ys.toArray 26)) base 27 o.type 26 i26 _ 6 80 Tryd.underlying27 hi hz0 hz1 hz2 rfl (by decide) _ n inner (hown.alloc _) ⟨W.heap.size, 0, none⟩ 1 1 ys (by rw [hys]) hnews h1 (by simp only [maxLen]; omega) (by omega) (by simp; omega)
  obtain ⟨v2, w2, hrun2, hup⟩ := run_append_upon (P := Tryd.prog) hc 27 27 o.type i26 _ 80 Tryd.underlying27 hi hz0 hz1 hz2 rfl ((Upon.start (e := 26) hc).alloc hc (.cells ys.toArray 26)) (.slice (some ⟨W.heap.size, 0, none⟩) 1 1) 1 ys (Src.ofSlice _ Tryd.underlying27 _ 1 1 ys (by rw [hys]) hnews h1) (by simp only [maxLen]; omega) (by omega)
  rw [hrun] at hrun2
  injection hrun2 with e1 e2
  subst e1 e2
  unfold Oper.wp
  simp [execOp, ho, resolve, invoke, builtin, hv, hx, hrun, Result.andThen]
  refine hK' _ _ (hK v' w' ho1 hg1 (fun j u hj => ?_))
  have hj0 := hc.olds j u hj
  have hlt : j < inner.length := by
    rcases Nat.lt_or_ge j inner.length with h | h
    · exact h
    · rw [List.getElem?_eq_none h] at hj; cases hj
  rw [hown.1] at hlt
  rw [Nat.zero_add] at hj0
  rw [hup.old hgl (fun j' _ ⟨_, e'⟩ => by omega)]
  exact hj0
end
theorem encode_len (A : Option Addr) (c n : Nat) (l : List S26) (z : World) (hl : l.length = n) (hr : Kd.C k26 z A n l) (hok : ∀ a ∈ l, okA a) :
    Calls Tryd.prog 10 #[.slice A n c] z (EncPost z l) := by
  subst hl
  exact encode_any A c l z hr hok
theorem len_more : (manyA ++ [dAct]).length = 401 := by rw [List.length_append, len_many]; rfl
theorem dec_none : dec 400 [] = [] := rfl
end Go.Proofs.YtahfcdlggaoakaaDoor.Rd

/- ScriptKnown, walked (first part: what its literals read as). -/
import Derived.Test.YtahfcdlggaoakaaDoorTotalW
import Derived.Test.YtahfcdlggaoakaaDoorGrow
import Derived.Lib.SmallJoins
namespace Go.Proofs.YtahfcdlggaoakaaDoor.Rd
open Go.RowKit Go.Proofs.YtahfcdlggaoakaaDoorW.PrintWords Go.Proofs.YtahfcdlggaoakaaDoorW.PrintLast Go.Proofs.YtahfcdlggaoakaaDoorW.PrintMore
open Go.Proofs.YtahfcdlggaoakaaDoor.PScriptDecodes
set_option linter.unusedVariables false
set_option linter.unusedSimpArgs false

theorem int_C {w : World} {A : Option Addr} {n : Nat} {xs : List Int} (h : ReadsInt w .i64 A n xs) : (Kd.int .i64).C w A n xs := Kd.C_of_reads (enc := Value.int .i64) (d := (0 : Int)) (h1 := fun _ => rfl) h
theorem nil_int (w : World) : (Kd.int .i64).C w none 0 [] := ⟨rfl, by omega, fun h => by omega⟩
/-- A row of one act. -/
theorem one_C {w : World} {g : Nat} {fr : Nat × Nat} {k n m : Int} {t : ByteArray} {A4 A5 : Option Addr} {n4 n5 c4 c5 : Nat} {ks ts : List Int}
    (h : w.heap[g]? = some (.cells #[.int .u8 k, .int .u8 n, .int .i64 m, .string t, .slice A4 n4 c4, .slice A5 n5 c5] 26 fr)) (l4 : n4 ≤ c4) (g4 : (Kd.int .i64).C w A4 n4 ks) (l5 : n5 ≤ c5) (g5 : (Kd.int .i64).C w A5 n5 ts) :
    Kd.C k26 w (some ⟨g, 0, none⟩) 1 [⟨k, n, m, t, ⟨ks, ts⟩⟩] := by
  obtain rfl : ks.length = n4 := g4.1
  obtain rfl : ts.length = n5 := g5.1
  refine ⟨rfl, by decide, fun _ => ⟨_, rfl, fun j p hj => ?_⟩⟩
  cases j with
  | zero =>
    simp only [List.getElem?_cons_zero, Option.some.injEq] at hj
    subst hj
    refine ⟨_, rfl, k26_mk w ⟨k, n, m, t, ⟨ks, ts⟩⟩ l4 g4 l5 g5, fun i u hi => ?_⟩
    rw [add_plain, cell_of_row w g _ _ _ _ h]
    simpa using hi
  | succ j => simp at hj

def fuseA : List S26 := [⟨6, 3, 7, ⟨#[]⟩, ⟨[1, 0], [3, 9]⟩⟩]
def bareA : List S26 := [⟨1, 1, 0, ⟨#[]⟩, ⟨[], []⟩⟩]
def aA : List S26 := [⟨1, 1, 0, ⟨#[97]⟩, ⟨[], []⟩⟩]
def twiceA : List S26 := [⟨4, 0, 0, ⟨#[]⟩, ⟨[], []⟩⟩]
def roundsA : List S26 := [⟨9, 7, 20, ⟨#[]⟩, ⟨[], []⟩⟩]
theorem dec_fuse : dec 400 [5, 2, 7, 2, 1, 3, 0, 9] = fuseA := by rfl
theorem dec_bare : dec 400 [0] = bareA := by rfl
theorem dec_a : dec 400 [9, 0, 255, 255, 97] = aA := by rfl
theorem dec_twice : dec 400 [255] = twiceA := by rfl
theorem enc_rounds : enc roundsA = ([8, 7, 20], 0) := by rfl

/-- []byte of a constant, decoded. -/
theorem dec_lit (xs : List Int) (fr : Nat × Nat) (w : World) (hn : xs.length ≤ 100) (hx : ∀ x ∈ xs, 0 ≤ x ∧ x ≤ 255) (n : Nat) (hl : n = xs.length) (g : Nat) (hg : w.heap[g]? = some (.cells (nums .u8 xs).toArray 5 fr)) :
    Calls Tryd.prog 9 #[.slice (some ⟨g, 0, none⟩) n n] w fun e w' => ∃ A c, e = .returned (.slice A (dec 400 xs).length c) ∧ (dec 400 xs).length ≤ c ∧ Kd.C k26 w' A (dec 400 xs).length (dec 400 xs) ∧ Below w.heap.size w w' := by
  subst hl
  refine (decode_any _ _ _ xs _ (reads_blk hg (by omega)) (Nat.le_refl _) (by omega) (fun _ ad e => by injection e with e; subst e; exact blk_lt hg) hx).mono ?_
  rintro e w' ⟨v, rfl, hra, hb⟩
  obtain ⟨A, c, rfl, hl, hr⟩ := Kd.R_reads hra
  exact ⟨A, c, rfl, hl, hr, hb⟩

theorem blk_new2 (w : World) (a o : Obj) : ((w.alloc a).alloc o).heap[w.heap.size + 1]? = some o := by
  have h := blk_new (w.alloc a) o
  simpa using h
theorem blk_new4 (w : World) (a b c o : Obj) : ((((w.alloc a).alloc b).alloc c).alloc o).heap[w.heap.size + 1 + 1 + 1]? = some o := by
  have h := blk_new (((w.alloc a).alloc b).alloc c) o
  simpa using h

end Go.Proofs.YtahfcdlggaoakaaDoor.Rd

/- Same of equal acts, and awake: it returns true. Conditions: none. -/
import Derived.Test.YtahfcdlggaoakaaDoorEnc
import Derived.Lib.SlBytesConst
namespace Go.Proofs.YtahfcdlggaoakaaDoor.Rd
open Go.RowKit Go.Proofs.YtahfcdlggaoakaaDoorW.PrintWords Go.Proofs.YtahfcdlggaoakaaDoorW.PrintLast Go.Proofs.YtahfcdlggaoakaaDoorW.PrintMore
open Go.Proofs.YtahfcdlggaoakaaDoor.PScriptDecodes
set_option linter.unusedVariables false
set_option linter.unusedSimpArgs false

theorem wrap_next {i : Int} {n : Nat} (h0 : 0 ≤ i) (h : i < (n : Int)) (hn : n ≤ 9223372036854775807) : wrap64 (i + 1) = i + 1 := by
  unfold wrap64
  omega
theorem numbers_refl (xs : List Int) (hn : xs.length ≤ 9223372036854775807) (d : Nat) : ∀ (k : Nat) (i : Int), 0 ≤ i → i ≤ xs.length → (xs.length : Int) - i = d → d < k → wapentakeref26_numbers.l0 k xs xs i = some true := by
  induction d with
  | zero =>
    intro k i h0 h1 hd hk
    obtain ⟨k, rfl⟩ : ∃ m, k = m + 1 := ⟨k - 1, by omega⟩
    simp only [wapentakeref26_numbers.l0]
    rw [if_neg (by omega)]
  | succ d ih =>
    intro k i h0 h1 hd hk
    obtain ⟨k, rfl⟩ : ∃ m, k = m + 1 := ⟨k - 1, by omega⟩
    have hlt : i < (xs.length : Int) := by omega
    simp only [wapentakeref26_numbers.l0]
    rw [if_pos hlt, if_pos h0, if_pos hlt, if_pos trivial, wrap_next h0 hlt hn]
    exact ih k (i + 1) (by omega) (by omega) (by omega) (by omega)
theorem numbers_f (xs : List Int) (hn : xs.length ≤ 9223372036854775807) (k : Nat) (hk : xs.length < k) : wapentakeref26_numbers.f k xs xs = some true := by
  unfold wapentakeref26_numbers.f
  rw [if_pos rfl]
  exact numbers_refl xs hn xs.length k 0 (by omega) (by omega) (by omega) hk
theorem same_refl (l : List S26) (M : Nat) (hn : l.length ≤ 9223372036854775807) (hM : ∀ a ∈ l, a.f4.f0.length ≤ M ∧ a.f4.f1.length ≤ M) (hM2 : M ≤ 9223372036854775807) (d : Nat) : ∀ (k : Nat) (i : Int), 0 ≤ i → i ≤ l.length → (l.length : Int) - i = d → d + M + 1 < k → wapentakeref26_Same.l0 k l l i = some true := by
  induction d with
  | zero =>
    intro k i h0 h1 hd hk
    obtain ⟨k, rfl⟩ : ∃ m, k = m + 1 := ⟨k - 1, by omega⟩
    simp only [wapentakeref26_Same.l0]
    rw [if_neg (by omega)]
  | succ d ih =>
    intro k i h0 h1 hd hk
    obtain ⟨k, rfl⟩ : ∃ m, k = m + 1 := ⟨k - 1, by omega⟩
    have hlt : i < (l.length : Int) := by omega
    have hmem : rd_T26 l i ∈ l := by
      unfold rd_T26
      have hj : i.toNat < l.length := by omega
      rw [List.getD_eq_getElem?_getD, List.getElem?_eq_getElem hj]
      exact List.getElem_mem hj
    obtain ⟨m0, m1⟩ := hM _ hmem
    simp only [wapentakeref26_Same.l0]
    rw [if_pos hlt, if_pos h0, if_pos hlt, if_pos trivial, if_pos trivial, if_pos trivial, if_pos trivial, numbers_f _ (by omega) k (by omega), numbers_f _ (by omega) k (by omega)]
    simp only [Option.bind_some, if_true]
    rw [wrap_next h0 hlt hn]
    exact ih k (i + 1) (by omega) (by omega) (by omega) (by omega)
theorem lens (l : List S26) (w : World) (A : Option Addr) (h : Kd.C k26 w A l.length l) : ∀ a ∈ l, a.f4.f0.length ≤ 9223372036854775807 ∧ a.f4.f1.length ≤ 9223372036854775807 := by
  intro a ha
  obtain ⟨j, hj, rfl⟩ := List.getElem_of_mem ha
  obtain ⟨ad, B4, d4, B5, d5, _, _, _, _, _, _, _, _, g4, _, g5⟩ := at_T26 h (j : Int) (by omega) (by omega)
  have e : rd_T26 l (j : Int) = l[j] := by
    unfold rd_T26
    rw [Int.toNat_natCast, List.getD_eq_getElem?_getD, List.getElem?_eq_getElem hj]
    rfl
  rw [e] at g4 g5
  exact ⟨g4.2.1, g5.2.1⟩
/-- Same of the same acts, wherever they lie. -/
theorem same_any (A0 A1 : Option Addr) (c0 c1 : Nat) (l : List S26) (w : World) (h0 : Kd.C k26 w A0 l.length l) (h1 : Kd.C k26 w A1 l.length l) (hc0 : l.length ≤ c0) (hc1 : l.length ≤ c1) :
    Calls Tryd.prog 11 #[.slice A0 l.length c0, .slice A1 l.length c1] w fun e w' => e = .returned (.bool true) ∧ Below w.heap.size w w' := by
  refine wapentakeref26_Same.calls (l.length + 9223372036854775807 + 2) A0 c0 l A1 c1 l true w h0 hc0 h1 hc1 ?_
  unfold wapentakeref26_Same.f
  rw [if_pos rfl]
  exact same_refl l 9223372036854775807 h0.2.1 (lens l w A0 h0) (Nat.le_refl _) l.length _ 0 (by omega) (by omega) (by omega) (by omega)

def rawB : List Int := [0, 1, 0, 2, 97, 98, 1, 5, 4, 0, 12]
def someA : List S26 := [⟨1, 2, 0, ⟨#[97, 98]⟩, ⟨[], []⟩⟩, ⟨2, 0, 5, ⟨#[]⟩, ⟨[], []⟩⟩, ⟨5, 1, 12, ⟨#[]⟩, ⟨[], []⟩⟩]
theorem dec_raw : dec 400 rawB = someA := by rfl
theorem enc_some : enc someA = (rawB, 0) := by rfl
theorem someA_ok : ∀ a ∈ someA, okA a := by
  intro a ha
  simp only [someA, List.mem_cons, List.not_mem_nil, or_false] at ha
  rcases ha with rfl | rfl | rfl <;> exact ⟨⟨by decide, by decide⟩, by decide, by decide⟩

theorem reads_blk {w : World} {g t : Nat} {k : IntKind} {xs : List Int} {fr : Nat × Nat} (h : w.heap[g]? = some (.cells (nums k xs).toArray t fr)) (hn : xs.length ≤ 9223372036854775807) : ReadsInt w k (some ⟨g, 0, none⟩) xs.length xs := by
  refine ⟨rfl, hn, fun _ => ⟨_, rfl, fun j hj => ?_⟩⟩
  rw [add_plain, cell_of_row w g j _ _ _ h]
  simp [nums, List.getD_eq_getElem?_getD, hj]
theorem some_any (w : World) : Calls Tryd.prog 27 #[] w fun e w' => ∃ A c, e = .returned (.slice A someA.length c) ∧ someA.length ≤ c ∧ Kd.C k26 w' A someA.length someA ∧ Below w.heap.size w w' := by
  refine (wapentakelaw26_some.calls someA w rfl).mono ?_
  rintro e w' ⟨v, rfl, hs, hb⟩
  obtain ⟨A, c, rfl, hl, hr⟩ := Kd.S_reads hs
  exact ⟨A, c, rfl, hl, hr, hb⟩

set_option maxRecDepth 100000 in
set_option maxHeartbeats 2000000 in
theorem awake_any (z : World) : Calls Tryd.prog 13 #[] z fun e w' => e = .returned (.bool true) ∧ Below z.heap.size z w' := by
  go_enter Tryd.func13, Tryd.ntmps13
  go_wp2_with fail
  refine (some_any _).mono ?_
  rintro e w1 ⟨A, c, rfl, hc, hr, hb⟩
  have HB := Aside0.mk hb
  clear hb
  go_wp2_with fail
  refine (encode_any A c someA _ hr someA_ok).mono ?_
  rintro e w2 ⟨v, rfl, hown, hb⟩
  rw [enc_some] at hown
  simp only [enc_some]
  obtain ⟨Av, cv, rfl, hrv⟩ := own_reads hown
  have HRV := Aside0.mk hrv
  have HB2 := Aside0.mk (below_then HB.out HB.out.size hb)
  clear HB hb hown hrv hr hc
  have kc := fun (w : World) (C : Array Value) (n c : Nat) => Lib.run_convert_bytes_const (P := Tryd.prog) w 29 5 C n c Tryd.underlying29 Tryd.underlying5
  go_wp2_with fail
  refine (decode_any _ 11 11 rawB _ (reads_blk (k := .u8) (xs := rawB) (blk_new _ _) (by decide)) (by decide) (by decide) (fun _ ad e => by injection e with e; subst e; simp) (by decide)).mono ?_
  rintro e w3 ⟨v, rfl, hra, hb⟩
  rw [dec_raw] at hra
  obtain ⟨A3, c3, rfl, hl3, hr3⟩ := Kd.R_reads hra
  have HR3 := Aside0.mk hr3
  have HL3 := Aside0.mk hl3
  have HB3 := Aside0.mk (below_then (below_alloc HB2.out _) (below_alloc HB2.out _).size hb)
  have HV3 := Aside0.mk ((HRV.out.below (below_alloc (Below.refl _ _) _)).below hb)
  clear hra hr3 hl3 hb kc HB2 HRV
  go_wp2_with fail
  refine (some_any _).mono ?_
  rintro e w4 ⟨A4, c4, rfl, hc4, hr4, hb⟩
  have HB4 := Aside0.mk (below_then HB3.out HB3.out.size hb)
  have HV4 := Aside0.mk (HV3.out.below hb)
  have HR4 := Aside0.mk (Kd.C_below HR3.out hb)
  clear hb HB3 HV3 HR3
  go_wp2_with fail
  refine (same_any A3 A4 c3 c4 someA _ HR4.out hr4 HL3.out hc4).mono ?_
  rintro e w5 ⟨rfl, hb⟩
  have HB5 := Aside0.mk (below_then HB4.out HB4.out.size hb)
  have HV5 := HV4.out.below hb
  have kcs : (convert 29 9 (.slice Av rawB.length cv)).run Tryd.prog w5 = .ok (.string ⟨#[0, 1, 0, 2, 97, 98, 1, 5, 4, 0, 12]⟩) w5 := string_of_reads Tryd.underlying29 Tryd.underlying5 Tryd.underlying9 HV5
  clear hb HB4 HV4 HR4 hr4 hc4 HV5
  go_wp2
  go_ret
  exact ⟨rfl, HB5.out⟩
#print axioms awake_any
end Go.Proofs.YtahfcdlggaoakaaDoor.Rd

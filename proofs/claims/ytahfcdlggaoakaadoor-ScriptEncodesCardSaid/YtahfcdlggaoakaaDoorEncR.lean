/- The document's Encode, walked: of acts it answers enc. Conditions: the acts are read; kinds and nodes are bytes. -/
import Derived.Test.YtahfcdlggaoakaaDoorByW
namespace Go.Proofs.YtahfcdlggaoakaaDoor.Rd
open Go.RowKit Go.Proofs.YtahfcdlggaoakaaDoorW.PrintWords Go.Proofs.YtahfcdlggaoakaaDoorW.PrintLast Go.Proofs.YtahfcdlggaoakaaDoorW.PrintMore
open Go.Proofs.YtahfcdlggaoakaaDoor.PScriptDecodes
set_option linter.unusedVariables false
set_option linter.unusedSimpArgs false

/-- The document's Plain, called. -/
theorem refplain_any (k n num : Int) (txt : ByteArray) (A4 A5 : Option Addr) (c4 c5 : Nat) (ks ts : List Int) (w : World) (h4 : Kd.C (Kd.int .i64) w A4 ks.length ks) (h5 : Kd.C (Kd.int .i64) w A5 ts.length ts) (l4 : ks.length ≤ c4) (l5 : ts.length ≤ c5) :
    Calls Tryd.prog 17 #[.agg #[.int .u8 k, .int .u8 n, .int .i64 num, .string txt, .slice A4 ks.length c4, .slice A5 ts.length c5]] w fun e w' => e = .returned (.bool (plainB k n num txt ks ts)) ∧ Below w.heap.size w w' :=
  PScriptEncodes.wapentakeref26_Plain.calls 30 k n num txt A4 c4 ks A5 c5 ts _ w h4 l4 h5 l5 (refplain_f 0 k n num txt ks ts)
/-- An act's six cells. -/
def Six (b : Addr) (a : S26) (v4 v5 : Value) (w : World) : Prop :=
  w.cell? b = some (.int .u8 a.f0) ∧ w.cell? ⟨b.block, b.off + 1, none⟩ = some (.int .u8 a.f1) ∧ w.cell? ⟨b.block, b.off + 2, none⟩ = some (.int .i64 a.f2) ∧
    w.cell? ⟨b.block, b.off + 3, none⟩ = some (.string a.f3) ∧ w.cell? ⟨b.block, b.off + 4, none⟩ = some v4 ∧ w.cell? ⟨b.block, b.off + 5, none⟩ = some v5
theorem Six.below {b : Addr} {a : S26} {v4 v5 : Value} {w w' : World} (h : Six b a v4 v5 w) (hb : Below w.heap.size w w') : Six b a v4 v5 w' := by
  obtain ⟨h0, h1, h2, h3, h4, h5⟩ := h
  have mv : ∀ (x : Addr) (u : Value), w.cell? x = some u → w'.cell? x = some u := fun x u hx => (hb.cell (World.block_lt_of_cell? w _ hx)).trans hx
  exact ⟨mv _ _ h0, mv _ _ h1, mv _ _ h2, mv _ _ h3, mv _ _ h4, mv _ _ h5⟩
theorem lim2 (t : Nat) (h : t ≤ 100000000) : (9223372036854775807 < t) = False := by
  refine eq_false (fun h2 => ?_)
  exact absurd (Nat.lt_of_lt_of_le h2 h) (by decide)
theorem take_next (l : List S26) (j : Nat) (h : j < l.length) : l.take (j + 1) = l.take j ++ [l[j]] := by
  rw [List.take_add_one, List.getElem?_eq_getElem h]
  rfl
def RefEncPost (l : List S26) (z : World) (e : Ending) (w' : World) : Prop := e = .returned (.tuple #[.string (strOfNums (enc l).1), .int .i64 (enc l).2]) ∧ Below z.heap.size z w'

set_option maxRecDepth 100000 in
set_option maxHeartbeats 2000000 in
theorem refenc_any (A : Option Addr) (c : Nat) (l : List S26) (z : World) (hr : Kd.C k26 z A l.length l) (hc : l.length ≤ c) (hok : ∀ a ∈ l, okA a) :
    Calls Tryd.prog 16 #[.slice A l.length c] z (RefEncPost l z) := by
  have HR := Aside0.mk hr
  have HOK := Aside0.mk hok
  have HB0 := Aside0.mk (Below.refl z.heap.size z)
  clear hok hr
  by_cases h400 : 400 < l.length
  · have HE : Aside0 (enc l = ([], 3)) := ⟨by unfold enc; rw [if_pos h400]⟩
    have d1 : decide ((400 : Int) < (l.length : Int)) = true := decide_eq_true (by omega)
    go_enter Tryd.func16, Tryd.ntmps16
    go_wp2
    go_ret2
    exact ⟨by rw [HE.out]; rfl, HB0.out⟩
  · have d1 : decide ((400 : Int) < (l.length : Int)) = false := decide_eq_false (by omega)
    have H400 := Aside0.mk h400
    have hl4 : l.length ≤ 400 := by omega
    clear h400
    go_enter Tryd.func16, Tryd.ntmps16
    go_wp2
    clear d1
    go_loopg [4, 5] l.length (fun kq v4 v5 wr => ∃ (T : ByteArray) (j : Nat), v4 = .string T ∧ v5 = .int .i64 (j : Int) ∧ j + kq = l.length ∧ Aside0 (T = strOfNums (putsA (l.take j))) ∧ Aside0 ((l.take j).all plainA = true) ∧ Aside0 (Below z.heap.size z wr))
    case atStart => exact ⟨_, 0, rfl, rfl, by omega, ⟨rfl⟩, ⟨rfl⟩, HB0⟩
    case round =>
      obtain ⟨T, j, rfl, rfl, hjk, HT, HALL, HB⟩ := hrel
      by_cases hlt : j < l.length
      · obtain ⟨ad, B4, d4, B5, d5, rfl, x0, x1, x2, x3, x4, x5, l4, g4, l5, g5⟩ := at_T26 (Kd.C_below HR.out HB.out) (j : Int) (by omega) (by omega)
        rw [Int.toNat_natCast] at x0 x1 x2 x3 x4 x5
        have HRD : Aside0 (rd_T26 l (j : Int) = l[j]) := ⟨by unfold rd_T26; rw [Int.toNat_natCast, List.getD_eq_getElem?_getD, List.getElem?_eq_getElem hlt]; rfl⟩
        obtain ⟨a, ha⟩ : ∃ a, a = rd_T26 l (j : Int) := ⟨_, rfl⟩
        rw [← ha] at x0 x1 x2 x3 x4 x5 l4 g4 l5 g5 HRD
        have HOKA : Aside0 (okA a) := ⟨HOK.out a (by rw [HRD.out]; exact List.getElem_mem hlt)⟩
        have SIX : Aside0 (Six (ad.add (j * 6)) a (.slice B4 a.f4.f0.length d4) (.slice B5 a.f4.f1.length d5) wr) := ⟨x0, x1, x2, x3, x4, x5⟩
        have G4 := Aside0.mk g4
        have G5 := Aside0.mk g5
        have HJ := Aside0.mk hjk
        clear ha g4 g5 hjk
        go_wp2_with fail
        refine (refplain_any a.f0 a.f1 a.f2 a.f3 B4 B5 d4 d5 a.f4.f0 a.f4.f1 _ G4.out G5.out l4 l5).mono ?_
        rintro e w1 ⟨rfl, hb⟩
        have HB1 := Aside0.mk (below_then HB.out HB.out.size hb)
        have SIX1 := Aside0.mk (SIX.out.below hb)
        have R4 : Aside0 (ReadsInt w1 .i64 B4 a.f4.f0.length a.f4.f0) := ⟨Kd.reads_of_C (enc := Value.int .i64) (d := (0 : Int)) (h1 := fun _ => rfl) (Kd.C_below G4.out hb)⟩
        have R5 : Aside0 (ReadsInt w1 .i64 B5 a.f4.f1.length a.f4.f1) := ⟨Kd.reads_of_C (enc := Value.int .i64) (d := (0 : Int)) (h1 := fun _ => rfl) (Kd.C_below G5.out hb)⟩
        clear hb HB SIX G4 G5 x0 x1 x2 x3 x4 x5
        cases hp : plainB a.f0 a.f1 a.f2 a.f3 a.f4.f0 a.f4.f1 with
        | false =>
          have HE : Aside0 (enc l = ([], 1)) := ⟨by
            have h1 : ¬ l.all plainA = true := by
              rw [List.all_eq_true]
              intro h
              have := h l[j] (List.getElem_mem hlt)
              rw [← HRD.out] at this
              unfold plainA at this
              rw [hp] at this
              cases this
            unfold enc
            rw [if_neg H400.out, if_neg h1]⟩
          clear hp
          go_wp2
          go_ret2
          exact ⟨by rw [HE.out]; rfl, HB1.out⟩
        | true =>
          have HP := Aside0.mk hp
          clear hp
          obtain ⟨x0, x1, x2, x3, x4, x5⟩ := SIX1.out
          obtain ⟨S, hS⟩ : ∃ S, S = strOfNums (putA a) := ⟨_, rfl⟩
          have HS := Aside0.mk hS
          have g1 := lim2 (T.size + S.size) (by
            rw [hS, HT.out, strOf_size, strOf_size]
            have h1 := putA_len (show plainA a = true from HP.out)
            have h2 := putsA_len HALL.out
            have h3 : (l.take j).length ≤ 400 := by rw [List.length_take]; have := H400.out; omega
            omega)
          clear hS
          go_wp2_with fail
          refine (bytes_walk a.f0 a.f1 a.f2 a.f3 B4 B5 d4 d5 a.f4.f0 a.f4.f1 _ R4.out R5.out HOKA.out.2.1 HP.out).mono ?_
          rintro e w2 ⟨rfl, hb⟩
          have HB2 := Aside0.mk (below_then HB1.out HB1.out.size hb)
          rw [show strOfNums (putOf a.f0 a.f1 a.f2 a.f3 a.f4.f0 a.f4.f1) = S from HS.out.symm]
          clear hb HB1 SIX1 x0 x1 x2 x3 x4 x5
          go_wp2
          go_roundg (gk - 1)
          case measure => have := HJ.out; omega
          case rel => exact ⟨_, j + 1, rfl, by go_num, by have := HJ.out; omega, ⟨by
            rw [HT.out, HS.out, strOf_app, take_next l j hlt, ← HRD.out]
            simp [putsA]⟩, ⟨by
            rw [take_next l j hlt, List.all_append, HALL.out, ← HRD.out]
            have : plainA a = true := HP.out
            simp [this]⟩, HB2⟩
      · have hjn : j = l.length := by omega
        have HE : Aside0 (enc l = (putsA l, 0)) := ⟨by
          have h := HALL.out
          rw [hjn, List.take_length] at h
          unfold enc
          rw [if_neg H400.out, if_pos h]⟩
        have HTT : Aside0 (T = strOfNums (putsA l)) := ⟨by rw [HT.out, hjn, List.take_length]⟩
        clear hjn hjk HT HALL
        go_wp2
        go_ret2
        exact ⟨by rw [HE.out, HTT.out]; rfl, HB.out⟩
end Go.Proofs.YtahfcdlggaoakaaDoor.Rd

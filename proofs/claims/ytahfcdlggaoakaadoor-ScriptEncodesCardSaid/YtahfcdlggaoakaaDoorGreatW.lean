/- Great, walked: it answers, whatever it answers. -/
import Derived.Test.YtahfcdlggaoakaaDoorOpenA
namespace Go.Proofs.YtahfcdlggaoakaaDoor.Rd
open Go.RowKit Go.Proofs.YtahfcdlggaoakaaDoorW.PrintWords Go.Proofs.YtahfcdlggaoakaaDoorW.PrintLast Go.Proofs.YtahfcdlggaoakaaDoorW.PrintMore
open Go.Proofs.YtahfcdlggaoakaaDoor.PScriptDecodes
set_option linter.unusedVariables false
set_option linter.unusedSimpArgs false

def GreatPost (z : World) (e : Ending) (w' : World) : Prop := ∃ b : Bool, e = .returned (.bool b) ∧ Below z.heap.size z w'
theorem GreatPost.mk {z w' : World} {e : Ending} (b : Bool) (he : e = .returned (.bool b)) (hb : Below z.heap.size z w') : GreatPost z e w' := ⟨b, he, hb⟩
set_option maxRecDepth 100000 in
set_option maxHeartbeats 2000000 in
theorem great_any (A : Option Addr) (c : Nat) (l : List S26) (z : World) (hr : Kd.C k26 z A l.length l) (hl : l.length ≤ 9223372036854775807) :
    Calls Tryd.prog 15 #[.slice A l.length c] z (GreatPost z) := by
  have HR := Aside0.mk hr
  have HL := Aside0.mk hl
  have HB0 := Aside0.mk (Below.refl z.heap.size z)
  by_cases h450 : 450 < l.length
  · clear hr hl
    go_enter Tryd.func15, Tryd.ntmps15
    go_wp2
    go_ret
    exact GreatPost.mk true rfl HB0.out
  · have d450 : decide (450 < (l.length : Int)) = false := decide_eq_false (by omega)
    clear hr hl
    go_enter Tryd.func15, Tryd.ntmps15
    go_wp2
    go_loopg [3, 4] l.length (fun kq v3 v4 wr => ∃ (m : Int) (j : Nat), v3 = .int .i64 m ∧ v4 = .int .i64 (j : Int) ∧ j + kq = l.length ∧ Aside0 (Below z.heap.size z wr))
    case atStart => exact ⟨0, 0, rfl, rfl, by omega, HB0⟩
    case round =>
      obtain ⟨m, j, rfl, rfl, hjk, HB⟩ := hrel
      by_cases hlt : j < l.length
      · obtain ⟨ad, B4, d4, B5, d5, rfl, y0, y1, y2, y3, y4, y5, l4, g4, l5, g5⟩ := at_T26 (Kd.C_below HR.out HB.out) (j : Int) (by omega) (by omega)
        rw [Int.toNat_natCast] at y0 y1 y2 y3 y4 y5
        obtain ⟨a, ha⟩ : ∃ a, a = rd_T26 l (j : Int) := ⟨_, rfl⟩
        rw [← ha] at y0 y1 y2 y3 y4 y5 l4 g4 l5 g5
        have HJ := Aside0.mk hjk
        clear ha hjk g4 g5
        by_cases c0 : 12000 < a.f3.size
        · go_wp2
          go_ret
          exact GreatPost.mk true rfl (by first | exact HB.out | exact below_alloc HB.out _)
        · have e0 : decide (12000 < (a.f3.size : Int)) = false := decide_eq_false (by omega)
          by_cases c1 : 12000 < a.f4.f0.length
          · go_wp2
            go_ret
            exact GreatPost.mk true rfl (by first | exact HB.out | exact below_alloc HB.out _)
          · have e1 : decide (12000 < (a.f4.f0.length : Int)) = false := decide_eq_false (by omega)
            by_cases c2 : 12000 < a.f4.f1.length
            · go_wp2
              go_ret
              exact GreatPost.mk true rfl (by first | exact HB.out | exact below_alloc HB.out _)
            · have e2 : decide (12000 < (a.f4.f1.length : Int)) = false := decide_eq_false (by omega)
              go_wp2
              go_roundg (gk - 1)
              case measure => have := HJ.out; omega
              case rel => exact ⟨_, j + 1, rfl, by go_num, by have := HJ.out; omega, ⟨by first | exact HB.out | exact below_alloc HB.out _⟩⟩
      · clear hjk
        go_wp2
        go_ret
        exact GreatPost.mk _ rfl HB.out
end Go.Proofs.YtahfcdlggaoakaaDoor.Rd

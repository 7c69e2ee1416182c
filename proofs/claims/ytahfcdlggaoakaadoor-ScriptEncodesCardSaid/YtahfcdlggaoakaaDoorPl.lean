/- What script.Plain calls: small, the closure, slices.IndexFunc and ContainsFunc at it, slices.Grow of nil, slices.Concat of two. Conditions: the two are at most seven long. -/
import Derived.Test.YtahfcdlggaoakaaDoorDec
import Derived.Lib.AppendZerosOnto
namespace Go.Proofs.YtahfcdlggaoakaaDoor.Rd
open Go.RowKit Go.Proofs.YtahfcdlggaoakaaDoorW.PrintWords Go.Proofs.YtahfcdlggaoakaaDoorW.PrintLast Go.Proofs.YtahfcdlggaoakaaDoorW.PrintMore
open Go.Proofs.YtahfcdlggaoakaaDoor.PScriptDecodes

/-- Is it a byte's number? -/
def sml (n : Int) : Bool := decide (0 ≤ n) && decide (n ≤ 255)

theorem small_any (n : Int) (w : World) : Calls Tryd.prog 23 #[.int .i64 n] w fun e w' => e = .returned (.bool (sml n)) ∧ w' = w := by
  by_cases h0 : 0 ≤ n
  · by_cases h1 : n ≤ 255
    · have hs : sml n = true := by simp [sml, h0, h1]
      rw [hs]
      clear hs
      go_enter Tryd.func23, Tryd.ntmps23
      go_wp2
      go_ret
      exact ⟨rfl, rfl⟩
    · have hs : sml n = false := by simp [sml, h0]; omega
      rw [hs]
      clear hs
      go_enter Tryd.func23, Tryd.ntmps23
      go_wp2
      go_ret
      exact ⟨rfl, rfl⟩
  · have hs : sml n = false := by simp [sml]; omega
    rw [hs]
    clear hs
    go_enter Tryd.func23, Tryd.ntmps23
    go_wp2
    go_ret
    exact ⟨rfl, rfl⟩

theorem clos_any (n : Int) (w : World) : Calls Tryd.prog 26 #[.int .i64 n] w fun e w' => e = .returned (.bool (!sml n)) ∧ w' = w := by
  have hs := small_any n
  generalize sml n = b at *
  have HS := Aside0.mk hs
  clear hs
  go_enter Tryd.func26, Tryd.ntmps26
  go_wp2_with fail
  refine (HS.out _).mono ?_
  rintro e w1 ⟨rfl, rfl⟩
  go_wp2
  go_ret
  exact ⟨rfl, rfl⟩

/-- The first that is none, from i on. -/
def badAt (xs : List Int) : Bool := xs.any fun x => !sml x

def IdxPost (xs : List Int) (w : World) (e : Ending) (w' : World) : Prop := ∃ r : Int, e = .returned (.int .i64 r) ∧ decide (0 ≤ r) = badAt xs ∧ w' = w

set_option maxHeartbeats 1000000 in
theorem index_any (A : Option Addr) (n c : Nat) (xs : List Int) (w : World) (hr : ReadsInt w .i64 A n xs) :
    Calls Tryd.prog 38 #[.slice A n c, .func (.func 26) #[] #[]] w (IdxPost xs w) := by
  have hn : xs.length = n := hr.1
  have hm : n ≤ 9223372036854775807 := hr.2.1
  have HR := Aside0.mk hr.2.2
  have HN := Aside0.mk hn
  clear hr hn
  go_enter Tryd.func38, Tryd.ntmps38
  go_wp2
  go_loopg [8, 5] n (fun kq v8 v5 wr => ∃ j : Nat, j + kq = n ∧ v8 = .int .i64 (j : Int) ∧ Aside0 (badAt (xs.take j) = false) ∧ wr = w)
  case atStart => exact ⟨0, by omega, rfl, ⟨by simp [badAt]⟩, rfl⟩
  case round =>
    obtain ⟨j, hjk, rfl, HB, rfl⟩ := hrel
    by_cases hlt : j < n
    · obtain ⟨ad, rfl, hc⟩ := HR.out (by omega)
      have hcell : wr.cell? (ad.add j) = some (.int .i64 (xs.getD j 0)) := hc j hlt
      clear hc HR
      have HJ := Aside0.mk hjk
      have ht : xs.take (j + 1) = xs.take j ++ [xs.getD j 0] := by
        have hj : j < xs.length := by have := HN.out; omega
        rw [List.take_succ_eq_append_getElem hj]; simp [List.getD_eq_getElem?_getD, hj]
      have HT := Aside0.mk ht
      have hcl := clos_any (xs.getD j 0)
      have hbd : badAt xs = true ∨ sml (xs.getD j 0) = true := by
        by_cases hs : sml (xs.getD j 0) = true
        · exact .inr hs
        · left
          unfold badAt
          rw [List.any_eq_true]
          have hj : j < xs.length := by have := HN.out; omega
          exact ⟨xs.getD j 0, by rw [show xs.getD j 0 = xs[j] by simp [List.getD_eq_getElem?_getD, hj]]; exact List.getElem_mem hj, by simpa using hs⟩
      have HD := Aside0.mk hbd
      have HS : Aside0 (sml (xs.getD j 0) = sml (xs.getD j 0)) := ⟨rfl⟩
      clear ht hjk hbd
      generalize hx : xs.getD j 0 = x at *
      have HX := Aside0.mk hx
      clear hx
      by_cases hs : sml x = true
      · have hcl2 : ∀ w, Calls Tryd.prog 26 #[.int .i64 x] w fun e w' => e = .returned (.bool false) ∧ w' = w := fun w => by have := hcl w; rwa [hs] at this
        have HC := Aside0.mk hcl2
        have HS2 := Aside0.mk hs
        clear hcl hcl2 hs
        go_wp2_with fail
        refine (HC.out _).mono ?_
        rintro e w1 ⟨rfl, rfl⟩
        go_wp2
        go_roundg (n - (j + 1))
        case measure => have := HJ.out; omega
        case rel => exact ⟨j + 1, by have := HJ.out; omega, by go_num, ⟨by rw [HT.out]; simp only [badAt, List.any_append] at HB ⊢; simp [HB.out, HS2.out]⟩, rfl⟩
      · have hcl2 : ∀ w, Calls Tryd.prog 26 #[.int .i64 x] w fun e w' => e = .returned (.bool true) ∧ w' = w := fun w => by have := hcl w; rwa [show sml x = false by simpa using hs] at this
        have HC := Aside0.mk hcl2
        have HS2 := Aside0.mk hs
        clear hcl hcl2 hs
        go_wp2_with fail
        refine (HC.out _).mono ?_
        rintro e w1 ⟨rfl, rfl⟩
        go_wp2
        go_ret
        exact ⟨j, rfl, by rw [HD.out.resolve_right HS2.out]; simp, rfl⟩
    · have hjn : j = n := by omega
      have HE : badAt xs = false := by have := HB.out; rwa [hjn, List.take_of_length_le (by rw [HN.out]; exact Nat.le_refl _)] at this
      have HE2 := Aside0.mk HE
      clear HE hjk
      subst hjn
      go_wp2
      go_ret
      exact ⟨-1, rfl, by rw [HE2.out]; rfl, rfl⟩

theorem contains_any (A : Option Addr) (n c : Nat) (xs : List Int) (w : World) (hr : ReadsInt w .i64 A n xs) :
    Calls Tryd.prog 24 #[.slice A n c, .func (.func 26) #[] #[]] w fun e w' => e = .returned (.bool (badAt xs)) ∧ w' = w := by
  have HR := Aside0.mk hr
  clear hr
  go_enter Tryd.func24, Tryd.ntmps24
  go_wp2_with fail
  refine (index_any A n c xs _ HR.out).mono ?_
  rintro e w1 ⟨r, rfl, hb, rfl⟩
  have HB := Aside0.mk hb
  clear hb
  go_wp2
  go_ret
  exact ⟨by rw [← HB.out]; rfl, rfl⟩

end Go.Proofs.YtahfcdlggaoakaaDoor.Rd

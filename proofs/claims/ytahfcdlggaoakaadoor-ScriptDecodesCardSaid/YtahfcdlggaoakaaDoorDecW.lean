/- ScriptDecodes, walked: it returns true for any text. -/
import Derived.Test.YtahfcdlggaoakaaDoorDecP
namespace Go.Proofs.YtahfcdlggaoakaaDoor.Rd
open Go.RowKit Go.Proofs.YtahfcdlggaoakaaDoorW.PrintWords Go.Proofs.YtahfcdlggaoakaaDoorW.PrintLast Go.Proofs.YtahfcdlggaoakaaDoorW.PrintMore
open Go.Proofs.YtahfcdlggaoakaaDoor.PScriptDecodes
set_option linter.unusedVariables false
set_option linter.unusedSimpArgs false

set_option maxRecDepth 100000 in
set_option maxHeartbeats 2000000 in
theorem decodes_walk (s : ByteArray) (hs : s.size ≤ 140737488351232) (z : World) :
    Calls Tryd.prog 4 #[.string s] z fun e w' => e = .returned (.bool true) ∧ Below z.heap.size z w' := by
  have kb := fun (t : ByteArray) W => print_bytes (P := Tryd.prog) 9 29 5 Tryd.underlying9 Tryd.underlying29 Tryd.underlying5 t W
  obtain ⟨t, ht, hcase⟩ := cut_text s 12000
  obtain ⟨L, hL⟩ : ∃ L, dec 400 (bytesOf t) = L := ⟨_, rfl⟩
  have hlen := dec_len 400 (bytesOf t)
  rw [hL] at hlen
  obtain ⟨hl400, hlt⟩ := hlen
  have HLL := Aside0.mk hL
  clear hL hlt
  have HT := Aside0.mk ht
  rcases hcase with ⟨hc, he⟩ | ⟨hc, rfl⟩
  all_goals
    go_enter Tryd.func4, Tryd.ntmps4
    go_wp2_with fail
    obtain ⟨wb, hwb⟩ : ∃ wb, wb = Lib.bytesWorld z 5 t := ⟨_, rfl⟩
    obtain ⟨cb, hcb⟩ : ∃ cb, cb = grownCap z t.size 0 5 := ⟨_, rfl⟩
    have hcl : t.size ≤ cb := by rw [hcb]; exact grownCap_ge _ _ _ _
    have hcm : cb ≤ 9223372036854775807 := by rw [hcb]; have := grownCap_le_maxLen z t.size 0 5 (by unfold maxLen; omega); unfold maxLen at this; omega
    have hrb := bytes_reads z 5 t (by omega)
    have hbz := bytes_below (Below.refl z.heap.size z) (Nat.le_refl _) 5 t
    have hsz : wb.heap.size = z.heap.size + 1 := by rw [hwb]; exact Lib.bytesWorld_size _ _ _
    rw [← hwb] at hrb hbz ⊢
    rw [← hcb]
    have HRB := Aside0.mk hrb
    have HBZ := Aside0.mk hbz
    have HSZ := Aside0.mk hsz
    have HCL := Aside0.mk hcl
    have HCM := Aside0.mk hcm
    clear hwb hcb hrb hbz hsz kb hcl hcm
    refine (decode_any _ _ _ (bytesOf t) _ HRB.out HCL.out HCM.out (fun _ ad e => by injection e with e; subst e; rw [HSZ.out]; simp) (bytesOf_bs t)).mono ?_
    rintro e w3 ⟨v, rfl, hra, hb⟩
    rw [HLL.out] at hra
    obtain ⟨A3, c3, rfl, hl3, hr3, hsh⟩ := sh_of hra
    have HR3 := Aside0.mk hr3
    have HL3 := Aside0.mk hl3
    have HSH := Aside0.mk hsh
    have HB3 := Aside0.mk hb
    clear hra hr3 hb hl3 hsh
    go_wp2_with fail
    refine (refdec_any t HT.out _).mono ?_
    rintro e w4 ⟨v, rfl, hra, hb⟩
    rw [HLL.out] at hra
    obtain ⟨A4, c4, rfl, hl4, hr4⟩ := Kd.R_reads hra
    have R3 := Aside0.mk (Kd.C_below HR3.out hb)
    have R4 := Aside0.mk hr4
    have HL4 := Aside0.mk hl4
    have HB4 := Aside0.mk hb
    clear hra hr4 hl4 hb
    go_wp2_with fail
    refine (same_any A3 A4 c3 c4 L _ R3.out R4.out HL3.out HL4.out).mono ?_
    rintro e w5 ⟨rfl, hb⟩
    have HB5 := Aside0.mk (below_then HB4.out HB4.out.size hb)
    have HB5b := Aside0.mk (below_then HB3.out HB3.out.size HB5.out)
    have HS5 : Aside0 (0 < L.length → ∃ hb hc, A3 = some ⟨hb, 0, none⟩ ∧ wb.heap.size ≤ hb ∧ Sh w5 wb.heap.size hb hc L.length) := ⟨fun hn => by
      obtain ⟨hb_, hc_, e_, hge_, hs_⟩ := HSH.out hn
      exact ⟨hb_, hc_, e_, hge_, hs_.move (fun g hg => HB5.out.block g hg)⟩⟩
    clear hb HB4 R3 R4 HL4 HSH HB5
    go_wp2
    go_loopg [5, 6] L.length (fun kq v5 v6 wr => ∃ j : Nat, v5 = .int .i64 (j : Int) ∧ j + kq = L.length ∧ Aside0 (Below wb.heap.size wb wr) ∧ Aside0 (0 < L.length → ∃ hb hc, A3 = some ⟨hb, 0, none⟩ ∧ wb.heap.size ≤ hb ∧ Sh wr wb.heap.size hb hc L.length))
    case atStart => exact ⟨0, rfl, by omega, HB5b, HS5⟩
    case round =>
      obtain ⟨j, rfl, hjk, HB, HSR⟩ := hrel
      by_cases hlt : j < L.length
      · obtain ⟨hb, hca, rfl, hge, hsh⟩ := HSR.out (by omega)
        obtain ⟨A, k, c, hcell, hir⟩ := hsh.row j hlt
        obtain ⟨hc4, _⟩ := hsh.at_ hlt hcell
        have hk64 := hir.le
        have HSHR := Aside0.mk hsh
        clear hsh hir
        go_wp2_with fail
        clear hc4
        have HCE := Aside0.mk hcell
        have HJ := Aside0.mk hjk
        obtain ⟨G, hG⟩ : ∃ G, gk = G + 1 := ⟨gk - 1, by omega⟩
        have HG := Aside0.mk hG
        clear hcell hjk hG
        go_loopg [6] k (fun kq v6 ws => ∃ m : Nat, v6 = .int .i64 (m : Int) ∧ m + kq = k ∧ Aside0 (Below wb.heap.size wb ws) ∧ Aside0 (Sh ws wb.heap.size hb hca L.length))
        case atStart => exact ⟨0, rfl, by omega, HB, HSHR⟩
        case round =>
          obtain ⟨m, rfl, hmk, HBI, HSI⟩ := hrel
          obtain ⟨hc4, hir⟩ := HSI.out.at_ hlt HCE.out
          by_cases hm : m < k
          · obtain ⟨g, x, rfl, hg, hne, hx, hf⟩ := hir.at_ hm
            have HM := Aside0.mk hmk
            clear hir hmk
            have HBN := Aside0.mk (HBI.out.setCell (p := ⟨g, m, none⟩) hg (.int .i64 (wrap64 (x + 1))))
            have HSN := Aside0.mk (HSI.out.put (g := g) (i := m) hne (wrap64 (x + 1)))
            clear HBI HSI
            go_wp2
            go_roundg (gk - 1)
            case measure => have := HM.out; omega
            case rel => exact ⟨m + 1, by go_num, by have := HM.out; omega, HBN, HSN⟩
          · clear hir hmk
            go_wp2
            go_roundg G
            case measure => have := HG.out; omega
            case rel => exact ⟨j + 1, by go_num, by have := HJ.out; have := HG.out; omega, HBI, ⟨fun _ => ⟨hb, hca, rfl, hge, HSI.out⟩⟩⟩
      · clear hjk HSR
        have ks := fun (cap : Nat) => string_of_reads (P := Tryd.prog) (c := cap) Tryd.underlying29 Tryd.underlying5 Tryd.underlying9 (HRB.out.below HB.out)
        rw [strOf_bytes] at ks
        have RB := Aside0.mk (HRB.out.below HB.out)
        have HBW := Aside0.mk (below_then HBZ.out HBZ.out.size HB.out)
        have hgt : z.heap.size < wr.heap.size := by have := HB.out.size; have := HSZ.out; omega
        clear HB HBZ HRB
        go_wp2_with fail
        clear ks
        refine (decode_any _ _ _ (bytesOf t) _ RB.out HCL.out HCM.out (fun _ ad e => by injection e with e; subst e; exact hgt) (bytesOf_bs t)).mono ?_
        rintro e w6 ⟨v, rfl, hra, hb⟩
        rw [HLL.out] at hra
        obtain ⟨A6, c6, rfl, hl6, hr6⟩ := Kd.R_reads hra
        have R6 := Aside0.mk hr6
        have HL6 := Aside0.mk hl6
        have HB6 := Aside0.mk (below_then HBW.out HBW.out.size hb)
        clear hra hr6 hb hl6 HBW RB hgt
        go_wp2_with fail
        refine (refdec_any t HT.out _).mono ?_
        rintro e w7 ⟨v, rfl, hra, hb⟩
        rw [HLL.out] at hra
        obtain ⟨A7, c7, rfl, hl7, hr7⟩ := Kd.R_reads hra
        have R6b := Aside0.mk (Kd.C_below R6.out hb)
        have R7 := Aside0.mk hr7
        have HL7 := Aside0.mk hl7
        have HB7 := Aside0.mk (below_then HB6.out HB6.out.size hb)
        clear hra hr7 hl7 hb HB6 R6
        go_wp2_with fail
        refine (same_any A6 A7 c6 c7 L _ R6b.out R7.out HL6.out HL7.out).mono ?_
        rintro e w8 ⟨rfl, hb⟩
        have HB8 := Aside0.mk (below_then HB7.out HB7.out.size hb)
        clear hb HB7
        go_wp2_with fail
        refine (awake_any _).mono ?_
        rintro e w9 ⟨rfl, hb⟩
        have HB9 := Aside0.mk (below_then HB8.out HB8.out.size hb)
        clear hb HB8
        go_wp2
        go_ret
        exact ⟨rfl, HB9.out⟩
#print axioms decodes_walk
end Go.Proofs.YtahfcdlggaoakaaDoor.Rd

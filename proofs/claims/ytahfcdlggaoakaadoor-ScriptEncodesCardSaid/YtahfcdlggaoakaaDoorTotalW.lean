/- ScriptTotal, walked: it returns true for any text. -/
import Derived.Test.YtahfcdlggaoakaaDoorAw
import Derived.Test.YtahfcdlggaoakaaDoorPlain
namespace Go.Proofs.YtahfcdlggaoakaaDoor.Rd
open Go.RowKit Go.Proofs.YtahfcdlggaoakaaDoorW.PrintWords Go.Proofs.YtahfcdlggaoakaaDoorW.PrintLast Go.Proofs.YtahfcdlggaoakaaDoorW.PrintMore
open Go.Proofs.YtahfcdlggaoakaaDoor.PScriptDecodes
set_option linter.unusedVariables false
set_option linter.unusedSimpArgs false

/-- A text, or its first n bytes. -/
theorem cut_text (s : ByteArray) (n : Nat) : ∃ t : ByteArray, t.size ≤ n ∧ ((n < s.size ∧ s.extract 0 n = t) ∨ (¬ n < s.size ∧ t = s)) := by
  by_cases h : n < s.size
  · exact ⟨s.extract 0 n, by rw [ByteArray.size_extract]; omega, .inl ⟨h, rfl⟩⟩
  · exact ⟨s, by omega, .inr ⟨h, rfl⟩⟩
theorem bytesOf_empty (t : ByteArray) : bytesOf t = [] ↔ t.toList.isEmpty = true := by
  rw [txt_empty, decide_eq_true_eq, ← bytesOf_length]
  exact List.length_eq_zero_iff.symm

theorem own_reads2 {w : World} {base n : Nat} {e : TypeId} {k : IntKind} {v : Value} {xs : List Int} (h : w.ownsRow base e 1 v n (nums k xs)) : ∃ A c, v = .slice A n c ∧ n ≤ c ∧ c ≤ 9223372036854775807 ∧ ReadsInt w k A n xs := by
  obtain ⟨A, c, e1, hr⟩ := own_reads h
  refine ⟨A, c, e1, ?_, ?_, hr⟩
  · rcases h.2 with ⟨hv, h0⟩ | ⟨g, cap, cur, hv, _, _, hn, _⟩
    · omega
    · rw [e1] at hv; injection hv with _ _ h3; omega
  · rcases h.2 with ⟨hv, h0⟩ | ⟨g, cap, cur, hv, _, _, _, hm, _⟩
    · rw [e1] at hv; injection hv with _ _ h3; omega
    · rw [e1] at hv; injection hv with _ _ h3; unfold maxLen at hm; omega
theorem pairBytes_bs : ∀ (ks ts : List Int), Bs ks → Bs ts → Bs (pairBytes ks ts)
  | [], _, _, _ => by intro x hx; simp [pairBytes] at hx
  | _ :: _, [], _, _ => by intro x hx; simp [pairBytes] at hx
  | k :: ks, t :: ts, h1, h2 => by
    have ih := pairBytes_bs ks ts (fun x hx => h1 x (List.mem_cons_of_mem _ hx)) (fun x hx => h2 x (List.mem_cons_of_mem _ hx))
    intro x hx
    simp only [pairBytes, List.mem_cons] at hx
    rcases hx with rfl | rfl | hx
    · exact h1 _ List.mem_cons_self
    · exact h2 _ List.mem_cons_self
    · exact ih x hx
theorem put_bs {a : S26} (h : plainA a = true) (hok : okA a) : Bs (putA a) := by
  obtain ⟨h1, h2, hno, hsm, hnu, hts, htx, hle, hl8, hcr, hbad⟩ := (plainB_iff _ _ _ _ _ _).1 h
  obtain ⟨⟨o1, o2⟩, o3, o4⟩ := hok
  have hs : 0 ≤ a.f2 ∧ a.f2 ≤ 255 := by simpa [sml] using hsm
  have hk : Bs a.f4.f0 := fun x hx => good_of hbad (List.mem_append_left _ hx)
  have ht : Bs a.f4.f1 := fun x hx => good_of hbad (List.mem_append_right _ hx)
  have hp := pairBytes_bs _ _ hk ht
  intro x hx
  unfold putA putOf at hx
  simp only [List.mem_append, List.mem_singleton] at hx
  rcases hx with (((hx | hx) | hx) | hx) | hx
  · omega
  · split at hx
    · rename_i hc
      have hn : 1 ≤ a.f1 ∧ a.f1 ≤ 5 := by
        simp only [nodeOk] at hno
        rw [if_pos hc] at hno
        simpa using hno
      simp at hx; omega
    · split at hx
      · simp at hx; omega
      · simp at hx
  · split at hx
    · simp at hx; omega
    · simp at hx
  · split at hx
    · simp only [List.mem_append, List.mem_cons, List.not_mem_nil, or_false] at hx
      rcases hx with (rfl | rfl) | hx
      · omega
      · omega
      · exact bytesOf_bs _ x hx
    · simp at hx
  · split at hx
    · simp only [List.mem_append, List.mem_cons, List.not_mem_nil, or_false] at hx
      rcases hx with rfl | hx
      · omega
      · exact hp x hx
    · simp at hx
theorem puts_bs {l : List S26} (h : l.all plainA = true) (hok : ∀ a ∈ l, okA a) : Bs (putsA l) := by
  intro x hx
  unfold putsA at hx
  obtain ⟨a, ha, hxa⟩ := List.mem_flatMap.1 hx
  exact put_bs (List.all_eq_true.1 h a ha) (hok a ha) x hxa

set_option maxRecDepth 100000 in
set_option maxHeartbeats 2000000 in
theorem total_walk (s : ByteArray) (hs : s.size ≤ 140737488351232) (z : World) :
    Calls Tryd.prog 6 #[.string s] z fun e w' => e = .returned (.bool true) ∧ Below z.heap.size z w' := by
  have kb := fun (t : ByteArray) W => print_bytes (P := Tryd.prog) 9 29 5 Tryd.underlying9 Tryd.underlying29 Tryd.underlying5 t W
  obtain ⟨t, ht, hcase⟩ := cut_text s 12000
  obtain ⟨L, hL⟩ : ∃ L, dec 400 (bytesOf t) = L := ⟨_, rfl⟩
  have hlen := dec_len 400 (bytesOf t)
  have hemp := dec_empty 399 (bytesOf t)
  have hpl := dec_plain 400 (bytesOf t) (bytesOf_bs t)
  have hen := enc_dec (bytesOf t) (bytesOf_bs t)
  rw [hL] at hlen hpl hen
  rw [show (399 : Nat) + 1 = 400 from rfl, hL, bytesOf_empty] at hemp
  rw [bytesOf_length] at hlen
  obtain ⟨hl400, hlt⟩ := hlen
  have hz0 : ((L.length : Int) == 0) = t.toList.isEmpty := by
    rw [Bool.eq_iff_iff, ← hemp, beq_iff_eq]
    constructor
    · intro h; exact List.eq_nil_of_length_eq_zero (by omega)
    · intro h; rw [h]; rfl
  have hd1 : decide (t.size < L.length) = false := decide_eq_false (by omega)
  have hd2 : decide ((400 : Int) < (L.length : Int)) = false := decide_eq_false (by omega)
  have HPL := Aside0.mk hpl
  have HEN := Aside0.mk hen
  have HLL := Aside0.mk hL
  have hcd := dec_enc L hpl.1 hpl.2 hl400
  have HCD := Aside0.mk hcd
  clear hemp hpl hen hL hcd
  rcases hcase with ⟨hc, he⟩ | ⟨hc, rfl⟩
  all_goals
    go_enter Tryd.func6, Tryd.ntmps6
    go_wp2_with fail
    refine (decode_any _ _ _ (bytesOf t) _ (bytes_reads z 5 t (by omega)) (grownCap_ge _ _ _ _) ?hm (fun _ ad e => by injection e with e; subst e; rw [Lib.bytesWorld_size]; simp) (bytesOf_bs t)).mono ?_
    case hm => have := grownCap_le_maxLen z t.size 0 5 (by unfold maxLen; omega); unfold maxLen at this; omega
    rintro e w3 ⟨v, rfl, hra, hb⟩
    rw [HLL.out] at hra
    obtain ⟨A3, c3, rfl, hl3, hr3⟩ := Kd.R_reads hra
    have HR3 := Aside0.mk hr3
    have HL3 := Aside0.mk hl3
    have HB3 := Aside0.mk (below_then (bytes_below (Below.refl z.heap.size z) (Nat.le_refl _) 5 t) (by rw [Lib.bytesWorld_size]; omega) hb)
    clear hra hr3 hb hl3
    go_wp2_with fail
    go_loopg [4] L.length (fun kq v4 wr => ∃ j : Nat, v4 = .int .i64 (j : Int) ∧ j + kq = L.length ∧ Aside0 (Below w3.heap.size w3 wr))
    case atStart => exact ⟨0, rfl, by omega, ⟨Below.refl _ _⟩⟩
    case round =>
      obtain ⟨j, rfl, hjk, HB⟩ := hrel
      by_cases hlt : j < L.length
      · obtain ⟨ad, B4, d4, B5, d5, rfl, x0, x1, x2, x3, x4, x5, l4, g4, l5, g5⟩ := at_T26 (Kd.C_below HR3.out HB.out) (j : Int) (by omega) (by omega)
        rw [Int.toNat_natCast] at x0 x1 x2 x3 x4 x5
        obtain ⟨a, ha⟩ : ∃ a, a = rd_T26 L (j : Int) := ⟨_, rfl⟩
        rw [← ha] at x0 x1 x2 x3 x4 x5 l4 g4 l5 g5
        have hmem : a ∈ L := by rw [ha]; unfold rd_T26; rw [Int.toNat_natCast, List.getD_eq_getElem?_getD, List.getElem?_eq_getElem hlt]; exact List.getElem_mem hlt
        have R4 : Aside0 (ReadsInt wr .i64 B4 a.f4.f0.length a.f4.f0) := ⟨Kd.reads_of_C (enc := Value.int .i64) (d := (0 : Int)) (h1 := fun _ => rfl) g4⟩
        have R5 : Aside0 (ReadsInt wr .i64 B5 a.f4.f1.length a.f4.f1) := ⟨Kd.reads_of_C (enc := Value.int .i64) (d := (0 : Int)) (h1 := fun _ => rfl) g5⟩
        obtain ⟨⟨ok0, ok1⟩, ok2, ok3⟩ := HPL.out.2 a hmem
        have hp : plainB a.f0 a.f1 a.f2 a.f3 a.f4.f0 a.f4.f1 = true := List.all_eq_true.1 HPL.out.1 a hmem
        have HP := Aside0.mk hp
        have HJ := Aside0.mk hjk
        clear hmem ha g4 g5 hjk hp
        go_wp2_with fail
        refine (plain_any a.f0 a.f1 a.f2 a.f3 B4 B5 d4 d5 a.f4.f0 a.f4.f1 _ R4.out R5.out l4 l5 ok0 ok1 ok2 ok3).mono ?_
        rintro e w4 ⟨rfl, hb⟩
        rw [HP.out]
        have HB4 := Aside0.mk (below_then HB.out HB.out.size hb)
        clear hb HB x0 x1 x2 x3 x4 x5
        go_wp2
        go_roundg (gk - 1)
        case measure => have := HJ.out; omega
        case rel => exact ⟨j + 1, by go_num, by have := HJ.out; omega, HB4⟩
      · have R := Aside0.mk (Kd.C_below HR3.out HB.out)
        have HBR := Aside0.mk (below_then HB3.out HB3.out.size HB.out)
        clear HB hjk
        go_wp2_with fail
        refine (encode_any A3 c3 L _ R.out HPL.out.2).mono ?_
        rintro e w4 ⟨v, rfl, hown, hb⟩
        rw [HEN.out] at hown
        simp only [HEN.out]
        obtain ⟨Av, cv, rfl, hcv, hcm, hrv⟩ := own_reads2 hown
        have HV := Aside0.mk hrv
        have R4 := Aside0.mk (Kd.C_below R.out hb)
        have HB4 := Aside0.mk (below_then HBR.out HBR.out.size hb)
        clear hown hrv hb R HBR
        go_wp2_with fail
        refine (decode_any Av _ cv (putsA L) _ HV.out hcv hcm (reads_lt HV.out) (puts_bs HPL.out.1 HPL.out.2)).mono ?_
        rintro e w5 ⟨v, rfl, hra, hb⟩
        rw [HCD.out] at hra
        obtain ⟨A5, c5, rfl, hl5, hr5⟩ := Kd.R_reads hra
        have R5 := Aside0.mk (Kd.C_below R4.out hb)
        have R6 := Aside0.mk hr5
        have HL5 := Aside0.mk hl5
        have HB5 := Aside0.mk (below_then HB4.out HB4.out.size hb)
        clear hra hb R4 HB4 hr5 hl5
        go_wp2_with fail
        refine (same_any A5 A3 c5 c3 L _ R6.out R5.out HL5.out HL3.out).mono ?_
        rintro e w6 ⟨rfl, hb⟩
        have HB6 := Aside0.mk (below_then HB5.out HB5.out.size hb)
        clear hb HB5
        go_wp2_with fail
        refine (awake_any _).mono ?_
        rintro e w7 ⟨rfl, hb⟩
        have HB7 := Aside0.mk (below_then HB6.out HB6.out.size hb)
        clear hb HB6
        go_wp2
        go_ret
        exact ⟨rfl, HB7.out⟩
#print axioms total_walk
end Go.Proofs.YtahfcdlggaoakaaDoor.Rd

/- ScriptBehind, walked. -/
import Derived.Test.YtahfcdlggaoakaaDoorBehindP
import Derived.Test.YtahfcdlggaoakaaDoorTotalW
namespace Go.Proofs.YtahfcdlggaoakaaDoor.Rd
open Go.RowKit Go.Proofs.YtahfcdlggaoakaaDoorW.PrintWords Go.Proofs.YtahfcdlggaoakaaDoorW.PrintLast Go.Proofs.YtahfcdlggaoakaaDoorW.PrintMore
open Go.Proofs.YtahfcdlggaoakaaDoor.PScriptDecodes
set_option linter.unusedVariables false
set_option linter.unusedSimpArgs false
theorem great_alt {z w' : World} {e : Ending} (h : GreatPost z e w') : (e = .returned (.bool true) ∨ e = .returned (.bool false)) ∧ Below z.heap.size z w' := by
  obtain ⟨b, he, hb⟩ := h
  cases b
  · exact ⟨.inr he, hb⟩
  · exact ⟨.inl he, hb⟩

set_option maxRecDepth 100000 in
set_option maxHeartbeats 4000000 in
theorem behind_walk (A : Option Addr) (c : Nat) (l : List S26) (hc : l.length ≤ c) (s : ByteArray) (z : World) (hr : Kd.C k26 z A l.length l) (hok : ∀ a ∈ l, okA a) :
    Calls Tryd.prog 7 #[.slice A l.length c, .string s] z fun e w' => e = .returned (.bool true) ∧ Below z.heap.size z w' := by
  have kb := fun (t : ByteArray) W => print_bytes (P := Tryd.prog) 9 29 5 Tryd.underlying9 Tryd.underlying29 Tryd.underlying5 t W
  have HR := Aside0.mk hr
  have HOK := Aside0.mk hok
  have HC := Aside0.mk hc
  obtain ⟨t, ht, hcase⟩ := cut_text s 3000
  have HT := Aside0.mk ht
  clear hok ht hc
  have hlm := hr.2.1
  clear hr
  go_enter Tryd.func7, Tryd.ntmps7
  go_wp2_with fail
  refine (great_any A c l _ HR.out hlm).mono ?_
  rintro e w1 hgp
  obtain ⟨he, hb⟩ := great_alt hgp
  have HB1 := Aside0.mk hb
  clear hgp
  rcases he with rfl | rfl
  · clear hb
    go_wp2_with fail
    refine (awake_any _).mono ?_
    rintro e w2 ⟨rfl, hb2⟩
    have HB2 := Aside0.mk (below_then HB1.out HB1.out.size hb2)
    clear hb2 HB1
    go_wp2
    go_ret
    exact ⟨rfl, HB2.out⟩
  · have HR1 := Aside0.mk (Kd.C_below HR.out hb)
    clear hb HR
    rcases hcase with ⟨hlt, hcut⟩ | ⟨hlt, rfl⟩
    · have d3000 : decide (3000 < (s.size : Int)) = true := decide_eq_true (by omega)
      go_wp2_with fail
      refine (encode_any A c l _ HR1.out HOK.out).mono ?_
      rintro e w2 ⟨v2, rfl, hown, hb⟩
      have HR2 := Aside0.mk (Kd.C_below HR1.out hb)
      have HB2 := Aside0.mk (below_then HB1.out HB1.out.size hb)
      clear hb HB1 HR1
      clear hlt d3000
      rcases enc_cases l with ⟨hbig, hen⟩ | ⟨hsm, hpl, hen⟩ | ⟨hsm, hen⟩
      · rw [hen] at hown ⊢
        obtain ⟨A2, c2, rfl, _, _, _⟩ := own_reads2 hown
        clear hown hen
        simp only [List.length_nil]
        have dbig : decide (400 < (l.length : Int)) = true := decide_eq_true (by omega)
        go_wp2_with fail
        refine (awake_any _).mono ?_
        rintro e w3 ⟨rfl, hb⟩
        have HB3 := Aside0.mk (below_then HB2.out HB2.out.size hb)
        clear hb HB2
        go_wp2
        go_ret
        exact ⟨rfl, HB3.out⟩
      · rw [hen] at hown ⊢
        obtain ⟨A2, c2, rfl, hc2, hm2, hrd⟩ := own_reads2 hown
        have HRD := Aside0.mk hrd
        have HEN := Aside0.mk hpl
        clear hown hen hrd hpl
        have dsm : decide (400 < (l.length : Int)) = false := decide_eq_false (by omega)
        have hpl66 := putsA_len HEN.out
        have HPU : Aside0 ((putsA l).length ≤ 26400000) := ⟨by omega⟩
        clear hpl66
        obtain ⟨i5, hi5, _, _, _⟩ := info_parts info5e
        have kb29 := fun W => run_bs0 W 29 5 i5 Tryd.underlying29 hi5
        obtain ⟨i26, hi26, _, _, _⟩ := info_parts info26
        have kb27 := fun W => run_bs0 W 27 26 i26 Tryd.underlying27 hi26
        have HO0 := Aside0.mk (own_lit w2 w2.heap.size 5 .u8 [] (Nat.le_refl _) (by decide))
        have HRD0 := Aside0.mk (HRD.out.below (below_alloc (Below.refl w2.heap.size w2) (.cells #[] 5)))
        have HB2' := Aside0.mk (below_alloc (Below.refl w2.heap.size w2) (.cells #[] 5))
        go_wp2_with (at_builtin; refine print_append_row (P := Tryd.prog) (w0 := w2) w2.heap.size rfl (.tmp 38) (.tmp 39) 29 5 .u8 1 rfl Tryd.underlying29 info5e (by decide) _ [] (putsA l) A2 _ c2 rfl rfl HO0.out HRD0.out HB2'.out HB2'.out.size (by have := HPU.out; simp only [List.length_nil]; omega) ?_)
        intro v3 w3 ho3 hb3 hg3 hat3
        have HO3 := Aside0.mk ho3
        have HB3 := Aside0.mk hb3
        clear ho3 hb3 hg3 hat3 HO0 HRD0 HB2' HRD
        go_wp2_with (at_builtin; refine print_append_str (P := Tryd.prog) (w0 := w2) w2.heap.size rfl (.tmp 40) (.tmp 41) 29 9 5 rfl Tryd.underlying29 Tryd.underlying9 info5e v3 (putsA l) t rfl rfl HO3.out HB3.out HB3.out.size (by have := HPU.out; have := HT.out; omega) ?_)
        intro v4 w4 ho4 hb4 _
        have hlt4 := own_lt ho4
        obtain ⟨A4, c4, rfl, hc4, hm4, hrd4⟩ := own_reads2 ho4
        have HR4 := Aside0.mk (Kd.C_below HR2.out hb4)
        have HB4 := Aside0.mk (below_then HB2.out HB2.out.size hb4)
        have HRD4 := Aside0.mk hrd4
        have HLT4 : Aside0 (∀ ad, A4 = some ad → ad.block < w4.heap.size) := ⟨fun ad e => hlt4 ad.block (by subst e; rfl)⟩
        clear ho4 hb4 hlt4 hrd4 HO3 HB3 HR2 HB2
        go_wp2_with fail
        refine (decode_any A4 _ c4 (putsA l ++ bytesOf t) _ HRD4.out hc4 hm4 (fun _ => HLT4.out) (fun x hx => (List.mem_append.1 hx).elim (puts_bs HEN.out HOK.out x) (bytesOf_bs t x))).mono ?_
        rintro e w5 ⟨v5, rfl, hra, hb⟩
        rw [dec_behind l (bytesOf t) HEN.out HOK.out hsm] at hra
        obtain ⟨W5, hW5⟩ : ∃ W5, W5 = (l ++ dec 400 (bytesOf t)).take 400 := ⟨_, rfl⟩
        rw [← hW5] at hra
        have HW5 := Aside0.mk hW5
        clear hW5
        obtain ⟨A5, c5, rfl, hl5, hr5⟩ := Kd.R_reads hra
        obtain ⟨n5, hn5⟩ : ∃ n5, n5 = W5.length := ⟨_, rfl⟩
        rw [← hn5] at hl5 hr5 ⊢
        have HN5 := Aside0.mk hn5
        clear hn5
        have HR5 := Aside0.mk (Kd.C_below HR4.out hb)
        have HB5 := Aside0.mk (below_then HB4.out HB4.out.size hb)
        have HBO := Aside0.mk hr5
        have HL5 := Aside0.mk hl5
        clear hra hb hr5 hl5 HR4 HB4 HRD4 HLT4
        obtain ⟨rows2, hr2, hrl2, hcell2⟩ := rows_of (R := KN w5.heap.size (w5.alloc (.cells #[] 26))) HR5.out (fun s cs h => (KN.of h (Nat.le_refl _)).below (below_alloc (Below.refl _ _) _))
        have hcell2' : ∀ ad, A = some ad → 0 < l.length → ∀ j u, rows2.flatten[j]? = some u → (w5.alloc (.cells #[] 26)).cell? (ad.add j) = some u := fun ad e h j u hj => pw_cell_below (below_alloc (Below.refl _ _) _) (hcell2 ad e h j u hj)
        have HC2 := Aside0.mk hcell2'
        have HRW := Aside0.mk hr2
        have HOE := Aside0.mk (own_empty w5 w5.heap.size (Nat.le_refl _))
        have HBE := Aside0.mk (below_alloc (Below.refl w5.heap.size w5) (.cells #[] 26))
        have HAN := Aside0.mk (C_none HR5.out)
        clear hr2 hcell2 hcell2' hrl2
        go_wp2_with (at_builtin; refine wp_append_acts (w0 := w5) w5.heap.size 0 l.length c w5.heap.size _ A [] rows2 [] l rfl (.tmp 44) (.tmp 45) rfl rfl rfl HOE.out rfl .nil rfl HRW.out rfl HAN.out HC2.out (by omega) w5.heap.size HBE.out (Nat.le_refl _) HBE.out.size HBE.out.size ?_)
        intro v7 w7 rows7 g7 ho7 hr7 _ hg7 hge hb7
        have hge7 : w5.heap.size ≤ g7 := by
          rcases hge with h | h
          · omega
          · omega
        have HLT7 := Aside0.mk (own_lt ho7 g7 hg7)
        have HGE7 := Aside0.mk hge7
        have HG7 := Aside0.mk hg7
        have HO7 := Aside0.mk ho7
        have HRW7 := Aside0.mk hr7
        have HB7 := Aside0.mk hb7
        clear ho7 hr7 hge hb7 hge7 hg7 HC2 HRW HOE HBE HAN HR5
        go_wp2_with fail
        refine (decode_any _ _ _ (bytesOf t) _ (bytes_reads w7 5 t (by have := HT.out; omega)) (grownCap_ge _ _ _ _) ?hm (fun _ ad e => by injection e with e; subst e; rw [Lib.bytesWorld_size]; simp) (bytesOf_bs t)).mono ?_
        case hm => have := grownCap_le_maxLen w7 t.size 0 5 (by have := HT.out; unfold maxLen; omega); unfold maxLen at this; omega
        rintro e w8 ⟨v8, rfl, hra8, hb8⟩
        have hlen2 := (dec_len 400 (bytesOf t)).1
        obtain ⟨L2, hL2⟩ : ∃ L2, L2 = dec 400 (bytesOf t) := ⟨_, rfl⟩
        rw [← hL2] at hra8 hlen2 HW5
        have HB8 := Aside0.mk (below_then (bytes_below (Below.refl w7.heap.size w7) (Nat.le_refl _) 5 t) (by rw [Lib.bytesWorld_size]; omega) hb8)
        obtain ⟨A8, c8, rows8, rfl, hr8, hn8, hc8⟩ := rows_RA (g := g7) hra8 (by have := HLT7.out; rw [Lib.bytesWorld_size]; omega)
        have HRW8 := Aside0.mk hr8
        have HN8 := Aside0.mk hn8
        have HC8 := Aside0.mk hc8
        have HO8 := Aside0.mk (own_keep HO7.out HB8.out)
        have HRL8 := Aside0.mk (HRW7.out.imp (fun s cs h => h.below HB8.out))
        have HBB8 := Aside0.mk (below_then HB7.out HB7.out.size HB8.out)
        clear hra8 hb8 hr8 hn8 hc8 hL2 HO7 HRW7 HLT7 HB7 HB8
        go_wp2_with (at_builtin; refine wp_append_acts (w0 := w5) w5.heap.size l.length L2.length c8 g7 v7 A8 rows7 rows8 l L2 rfl (.tmp 46) (.tmp 49) rfl rfl rfl HO8.out rfl HRL8.out HG7.out HRW8.out rfl HN8.out HC8.out (by omega) w5.heap.size HBB8.out HGE7.out HBB8.out.size HBB8.out.size ?_)
        intro v9 w9 rows9 g9 ho9 hr9 _ _ _ hb9
        obtain ⟨A9, c9, rfl, hc9, hC9⟩ := own_acts ho9 (hr9.imp fun s cs h => h.K) (by rw [List.length_append]) (by omega)
        have HBO9 := Aside0.mk (Kd.C_below HBO.out hb9)
        have HB9 := Aside0.mk (below_then HB5.out HB5.out.size hb9)
        clear ho9 hr9 hb9 HBO HB5 HO8 HRL8 HG7 HRW8 HN8 HC8 HBB8 HGE7
        obtain ⟨N, hN⟩ : ∃ N, N = l.length + L2.length := ⟨_, rfl⟩
        rw [← hN] at hc9 hC9 ⊢
        have HNN := Aside0.mk hN
        have hw := HW5.out
        by_cases hbig : 400 < N
        · obtain rfl : n5 = 400 := by rw [HN5.out, hw, List.length_take, List.length_append]; omega
          have dN : decide (400 < (N : Int)) = true := decide_eq_true (by omega)
          have kt := take_400 A9 N c9 (by omega)
          have HC9 : Aside0 (Kd.C k26 w9 A9 400 W5) := ⟨by rw [hw]; exact C_take hC9 (by omega)⟩
          clear hC9 hw hN
          go_wp2_with fail
          refine (same_len A5 A9 c5 c9 400 W5 _ HN5.out.symm HBO9.out HC9.out HL5.out (by omega)).mono ?_
          rintro e w10 ⟨rfl, hb10⟩
          have HB10 := Aside0.mk (below_then HB9.out HB9.out.size hb10)
          clear hb10 HB9 HBO9 HC9
          go_wp2_with fail
          refine (awake_any _).mono ?_
          rintro e w11 ⟨rfl, hb11⟩
          have HB11 := Aside0.mk (below_then HB10.out HB10.out.size hb11)
          clear hb11 HB10
          go_wp2
          go_ret
          exact ⟨rfl, HB11.out⟩
        · have hwl : W5 = l ++ L2 := by rw [hw, List.take_of_length_le (by rw [List.length_append]; omega)]
          obtain rfl : n5 = N := by rw [HN5.out, hwl, List.length_append, hN]
          have dN : decide (400 < (n5 : Int)) = false := decide_eq_false (by omega)
          have HC9 : Aside0 (Kd.C k26 w9 A9 n5 W5) := ⟨by rw [hwl]; exact hC9⟩
          clear hC9 hw hN hwl
          go_wp2_with fail
          refine (same_len A5 A9 c5 c9 n5 W5 _ HN5.out.symm HBO9.out HC9.out HL5.out hc9).mono ?_
          rintro e w10 ⟨rfl, hb10⟩
          have HB10 := Aside0.mk (below_then HB9.out HB9.out.size hb10)
          clear hb10 HB9 HBO9 HC9
          go_wp2_with fail
          refine (awake_any _).mono ?_
          rintro e w11 ⟨rfl, hb11⟩
          have HB11 := Aside0.mk (below_then HB10.out HB10.out.size hb11)
          clear hb11 HB10
          go_wp2
          go_ret
          exact ⟨rfl, HB11.out⟩
      · rw [hen] at hown ⊢
        obtain ⟨A2, c2, rfl, _, _, _⟩ := own_reads2 hown
        clear hown hen
        simp only [List.length_nil]
        have dsm : decide (400 < (l.length : Int)) = false := decide_eq_false (by omega)
        go_wp2_with fail
        refine (awake_any _).mono ?_
        rintro e w3 ⟨rfl, hb⟩
        have HB3 := Aside0.mk (below_then HB2.out HB2.out.size hb)
        clear hb HB2
        go_wp2
        go_ret
        exact ⟨rfl, HB3.out⟩
    · have d3000 : decide (3000 < (t.size : Int)) = false := decide_eq_false (by omega)
      go_wp2_with fail
      refine (encode_any A c l _ HR1.out HOK.out).mono ?_
      rintro e w2 ⟨v2, rfl, hown, hb⟩
      have HR2 := Aside0.mk (Kd.C_below HR1.out hb)
      have HB2 := Aside0.mk (below_then HB1.out HB1.out.size hb)
      clear hb HB1 HR1
      clear hlt d3000
      rcases enc_cases l with ⟨hbig, hen⟩ | ⟨hsm, hpl, hen⟩ | ⟨hsm, hen⟩
      · rw [hen] at hown ⊢
        obtain ⟨A2, c2, rfl, _, _, _⟩ := own_reads2 hown
        clear hown hen
        simp only [List.length_nil]
        have dbig : decide (400 < (l.length : Int)) = true := decide_eq_true (by omega)
        go_wp2_with fail
        refine (awake_any _).mono ?_
        rintro e w3 ⟨rfl, hb⟩
        have HB3 := Aside0.mk (below_then HB2.out HB2.out.size hb)
        clear hb HB2
        go_wp2
        go_ret
        exact ⟨rfl, HB3.out⟩
      · rw [hen] at hown ⊢
        obtain ⟨A2, c2, rfl, hc2, hm2, hrd⟩ := own_reads2 hown
        have HRD := Aside0.mk hrd
        have HEN := Aside0.mk hpl
        clear hown hen hrd hpl
        have dsm : decide (400 < (l.length : Int)) = false := decide_eq_false (by omega)
        have hpl66 := putsA_len HEN.out
        have HPU : Aside0 ((putsA l).length ≤ 26400000) := ⟨by omega⟩
        clear hpl66
        obtain ⟨i5, hi5, _, _, _⟩ := info_parts info5e
        have kb29 := fun W => run_bs0 W 29 5 i5 Tryd.underlying29 hi5
        obtain ⟨i26, hi26, _, _, _⟩ := info_parts info26
        have kb27 := fun W => run_bs0 W 27 26 i26 Tryd.underlying27 hi26
        have HO0 := Aside0.mk (own_lit w2 w2.heap.size 5 .u8 [] (Nat.le_refl _) (by decide))
        have HRD0 := Aside0.mk (HRD.out.below (below_alloc (Below.refl w2.heap.size w2) (.cells #[] 5)))
        have HB2' := Aside0.mk (below_alloc (Below.refl w2.heap.size w2) (.cells #[] 5))
        go_wp2_with (at_builtin; refine print_append_row (P := Tryd.prog) (w0 := w2) w2.heap.size rfl (.tmp 38) (.tmp 39) 29 5 .u8 1 rfl Tryd.underlying29 info5e (by decide) _ [] (putsA l) A2 _ c2 rfl rfl HO0.out HRD0.out HB2'.out HB2'.out.size (by have := HPU.out; simp only [List.length_nil]; omega) ?_)
        intro v3 w3 ho3 hb3 hg3 hat3
        have HO3 := Aside0.mk ho3
        have HB3 := Aside0.mk hb3
        clear ho3 hb3 hg3 hat3 HO0 HRD0 HB2' HRD
        go_wp2_with (at_builtin; refine print_append_str (P := Tryd.prog) (w0 := w2) w2.heap.size rfl (.tmp 40) (.tmp 41) 29 9 5 rfl Tryd.underlying29 Tryd.underlying9 info5e v3 (putsA l) t rfl rfl HO3.out HB3.out HB3.out.size (by have := HPU.out; have := HT.out; omega) ?_)
        intro v4 w4 ho4 hb4 _
        have hlt4 := own_lt ho4
        obtain ⟨A4, c4, rfl, hc4, hm4, hrd4⟩ := own_reads2 ho4
        have HR4 := Aside0.mk (Kd.C_below HR2.out hb4)
        have HB4 := Aside0.mk (below_then HB2.out HB2.out.size hb4)
        have HRD4 := Aside0.mk hrd4
        have HLT4 : Aside0 (∀ ad, A4 = some ad → ad.block < w4.heap.size) := ⟨fun ad e => hlt4 ad.block (by subst e; rfl)⟩
        clear ho4 hb4 hlt4 hrd4 HO3 HB3 HR2 HB2
        go_wp2_with fail
        refine (decode_any A4 _ c4 (putsA l ++ bytesOf t) _ HRD4.out hc4 hm4 (fun _ => HLT4.out) (fun x hx => (List.mem_append.1 hx).elim (puts_bs HEN.out HOK.out x) (bytesOf_bs t x))).mono ?_
        rintro e w5 ⟨v5, rfl, hra, hb⟩
        rw [dec_behind l (bytesOf t) HEN.out HOK.out hsm] at hra
        obtain ⟨W5, hW5⟩ : ∃ W5, W5 = (l ++ dec 400 (bytesOf t)).take 400 := ⟨_, rfl⟩
        rw [← hW5] at hra
        have HW5 := Aside0.mk hW5
        clear hW5
        obtain ⟨A5, c5, rfl, hl5, hr5⟩ := Kd.R_reads hra
        obtain ⟨n5, hn5⟩ : ∃ n5, n5 = W5.length := ⟨_, rfl⟩
        rw [← hn5] at hl5 hr5 ⊢
        have HN5 := Aside0.mk hn5
        clear hn5
        have HR5 := Aside0.mk (Kd.C_below HR4.out hb)
        have HB5 := Aside0.mk (below_then HB4.out HB4.out.size hb)
        have HBO := Aside0.mk hr5
        have HL5 := Aside0.mk hl5
        clear hra hb hr5 hl5 HR4 HB4 HRD4 HLT4
        obtain ⟨rows2, hr2, hrl2, hcell2⟩ := rows_of (R := KN w5.heap.size (w5.alloc (.cells #[] 26))) HR5.out (fun s cs h => (KN.of h (Nat.le_refl _)).below (below_alloc (Below.refl _ _) _))
        have hcell2' : ∀ ad, A = some ad → 0 < l.length → ∀ j u, rows2.flatten[j]? = some u → (w5.alloc (.cells #[] 26)).cell? (ad.add j) = some u := fun ad e h j u hj => pw_cell_below (below_alloc (Below.refl _ _) _) (hcell2 ad e h j u hj)
        have HC2 := Aside0.mk hcell2'
        have HRW := Aside0.mk hr2
        have HOE := Aside0.mk (own_empty w5 w5.heap.size (Nat.le_refl _))
        have HBE := Aside0.mk (below_alloc (Below.refl w5.heap.size w5) (.cells #[] 26))
        have HAN := Aside0.mk (C_none HR5.out)
        clear hr2 hcell2 hcell2' hrl2
        go_wp2_with (at_builtin; refine wp_append_acts (w0 := w5) w5.heap.size 0 l.length c w5.heap.size _ A [] rows2 [] l rfl (.tmp 44) (.tmp 45) rfl rfl rfl HOE.out rfl .nil rfl HRW.out rfl HAN.out HC2.out (by omega) w5.heap.size HBE.out (Nat.le_refl _) HBE.out.size HBE.out.size ?_)
        intro v7 w7 rows7 g7 ho7 hr7 _ hg7 hge hb7
        have hge7 : w5.heap.size ≤ g7 := by
          rcases hge with h | h
          · omega
          · omega
        have HLT7 := Aside0.mk (own_lt ho7 g7 hg7)
        have HGE7 := Aside0.mk hge7
        have HG7 := Aside0.mk hg7
        have HO7 := Aside0.mk ho7
        have HRW7 := Aside0.mk hr7
        have HB7 := Aside0.mk hb7
        clear ho7 hr7 hge hb7 hge7 hg7 HC2 HRW HOE HBE HAN HR5
        go_wp2_with fail
        refine (decode_any _ _ _ (bytesOf t) _ (bytes_reads w7 5 t (by have := HT.out; omega)) (grownCap_ge _ _ _ _) ?hm (fun _ ad e => by injection e with e; subst e; rw [Lib.bytesWorld_size]; simp) (bytesOf_bs t)).mono ?_
        case hm => have := grownCap_le_maxLen w7 t.size 0 5 (by have := HT.out; unfold maxLen; omega); unfold maxLen at this; omega
        rintro e w8 ⟨v8, rfl, hra8, hb8⟩
        have hlen2 := (dec_len 400 (bytesOf t)).1
        obtain ⟨L2, hL2⟩ : ∃ L2, L2 = dec 400 (bytesOf t) := ⟨_, rfl⟩
        rw [← hL2] at hra8 hlen2 HW5
        have HB8 := Aside0.mk (below_then (bytes_below (Below.refl w7.heap.size w7) (Nat.le_refl _) 5 t) (by rw [Lib.bytesWorld_size]; omega) hb8)
        obtain ⟨A8, c8, rows8, rfl, hr8, hn8, hc8⟩ := rows_RA (g := g7) hra8 (by have := HLT7.out; rw [Lib.bytesWorld_size]; omega)
        have HRW8 := Aside0.mk hr8
        have HN8 := Aside0.mk hn8
        have HC8 := Aside0.mk hc8
        have HO8 := Aside0.mk (own_keep HO7.out HB8.out)
        have HRL8 := Aside0.mk (HRW7.out.imp (fun s cs h => h.below HB8.out))
        have HBB8 := Aside0.mk (below_then HB7.out HB7.out.size HB8.out)
        clear hra8 hb8 hr8 hn8 hc8 hL2 HO7 HRW7 HLT7 HB7 HB8
        go_wp2_with (at_builtin; refine wp_append_acts (w0 := w5) w5.heap.size l.length L2.length c8 g7 v7 A8 rows7 rows8 l L2 rfl (.tmp 46) (.tmp 49) rfl rfl rfl HO8.out rfl HRL8.out HG7.out HRW8.out rfl HN8.out HC8.out (by omega) w5.heap.size HBB8.out HGE7.out HBB8.out.size HBB8.out.size ?_)
        intro v9 w9 rows9 g9 ho9 hr9 _ _ _ hb9
        obtain ⟨A9, c9, rfl, hc9, hC9⟩ := own_acts ho9 (hr9.imp fun s cs h => h.K) (by rw [List.length_append]) (by omega)
        have HBO9 := Aside0.mk (Kd.C_below HBO.out hb9)
        have HB9 := Aside0.mk (below_then HB5.out HB5.out.size hb9)
        clear ho9 hr9 hb9 HBO HB5 HO8 HRL8 HG7 HRW8 HN8 HC8 HBB8 HGE7
        obtain ⟨N, hN⟩ : ∃ N, N = l.length + L2.length := ⟨_, rfl⟩
        rw [← hN] at hc9 hC9 ⊢
        have HNN := Aside0.mk hN
        have hw := HW5.out
        by_cases hbig : 400 < N
        · obtain rfl : n5 = 400 := by rw [HN5.out, hw, List.length_take, List.length_append]; omega
          have dN : decide (400 < (N : Int)) = true := decide_eq_true (by omega)
          have kt := take_400 A9 N c9 (by omega)
          have HC9 : Aside0 (Kd.C k26 w9 A9 400 W5) := ⟨by rw [hw]; exact C_take hC9 (by omega)⟩
          clear hC9 hw hN
          go_wp2_with fail
          refine (same_len A5 A9 c5 c9 400 W5 _ HN5.out.symm HBO9.out HC9.out HL5.out (by omega)).mono ?_
          rintro e w10 ⟨rfl, hb10⟩
          have HB10 := Aside0.mk (below_then HB9.out HB9.out.size hb10)
          clear hb10 HB9 HBO9 HC9
          go_wp2_with fail
          refine (awake_any _).mono ?_
          rintro e w11 ⟨rfl, hb11⟩
          have HB11 := Aside0.mk (below_then HB10.out HB10.out.size hb11)
          clear hb11 HB10
          go_wp2
          go_ret
          exact ⟨rfl, HB11.out⟩
        · have hwl : W5 = l ++ L2 := by rw [hw, List.take_of_length_le (by rw [List.length_append]; omega)]
          obtain rfl : n5 = N := by rw [HN5.out, hwl, List.length_append, hN]
          have dN : decide (400 < (n5 : Int)) = false := decide_eq_false (by omega)
          have HC9 : Aside0 (Kd.C k26 w9 A9 n5 W5) := ⟨by rw [hwl]; exact hC9⟩
          clear hC9 hw hN hwl
          go_wp2_with fail
          refine (same_len A5 A9 c5 c9 n5 W5 _ HN5.out.symm HBO9.out HC9.out HL5.out hc9).mono ?_
          rintro e w10 ⟨rfl, hb10⟩
          have HB10 := Aside0.mk (below_then HB9.out HB9.out.size hb10)
          clear hb10 HB9 HBO9 HC9
          go_wp2_with fail
          refine (awake_any _).mono ?_
          rintro e w11 ⟨rfl, hb11⟩
          have HB11 := Aside0.mk (below_then HB10.out HB10.out.size hb11)
          clear hb11 HB10
          go_wp2
          go_ret
          exact ⟨rfl, HB11.out⟩
      · rw [hen] at hown ⊢
        obtain ⟨A2, c2, rfl, _, _, _⟩ := own_reads2 hown
        clear hown hen
        simp only [List.length_nil]
        have dsm : decide (400 < (l.length : Int)) = false := decide_eq_false (by omega)
        go_wp2_with fail
        refine (awake_any _).mono ?_
        rintro e w3 ⟨rfl, hb⟩
        have HB3 := Aside0.mk (below_then HB2.out HB2.out.size hb)
        clear hb HB2
        go_wp2
        go_ret
        exact ⟨rfl, HB3.out⟩
end Go.Proofs.YtahfcdlggaoakaaDoor.Rd
namespace Go.Proofs.YtahfcdlggaoakaaDoor.Rd
open Go.RowKit Go.Proofs.YtahfcdlggaoakaaDoorW.PrintWords Go.Proofs.YtahfcdlggaoakaaDoorW.PrintLast Go.Proofs.YtahfcdlggaoakaaDoorW.PrintMore
open Go.Proofs.YtahfcdlggaoakaaDoor.PScriptDecodes
/-- As the row asks it. -/
theorem behind_row (z : World) (A : Option Addr) (c : Nat) (l : List S26) (hc : l.length ≤ c) (hr : Kd.C k26 z A l.length l) (hok : ∀ a ∈ l, okA a) (s : ByteArray) (_ : s.size ≤ 140737488351232) :
    Calls Tryd.prog 7 #[.slice A l.length c, .string s] z fun e w' => e = .returned (.bool true) ∧ Below z.heap.size z w' := behind_walk A c l hc s z hr hok
end Go.Proofs.YtahfcdlggaoakaaDoor.Rd

/- script.Plain: which acts it says are plain. Conditions: none beyond the act's own reading. -/
import Derived.Test.YtahfcdlggaoakaaDoorCc
namespace Go.Proofs.YtahfcdlggaoakaaDoor.Rd
open Go.RowKit Go.Proofs.YtahfcdlggaoakaaDoorW.PrintWords Go.Proofs.YtahfcdlggaoakaaDoorW.PrintLast Go.Proofs.YtahfcdlggaoakaaDoorW.PrintMore
open Go.Proofs.YtahfcdlggaoakaaDoor.PScriptDecodes

def nodeOk (k n : Int) : Bool := if k = 1 ∨ 5 ≤ k ∧ k ≤ 8 then decide (1 ≤ n) && decide (n ≤ 5) else if k = 9 then decide (n < 32) else decide (n = 0)
def tNum (k : Int) : Bool := decide (2 ≤ k ∧ k ≤ 6 ∨ k = 9)
def plainB (k n num : Int) (text : ByteArray) (ks ts : List Int) : Bool :=
  decide (1 ≤ k) && decide (k ≤ 9) && nodeOk k n && sml num && (tNum k || decide (num = 0)) && decide (text.size ≤ 65535) && (decide (k = 1) || decide (text.size = 0)) &&
    decide (ks.length = ts.length) && decide (ks.length < 8) && (decide (k = 6 ∨ k = 7) || decide (ks.length = 0)) && !badAt (ks ++ ts)
theorem plainB_iff (k n num : Int) (text : ByteArray) (ks ts : List Int) : plainB k n num text ks ts = true ↔
    (1 ≤ k ∧ k ≤ 9 ∧ nodeOk k n = true ∧ sml num = true ∧ (tNum k = true ∨ num = 0) ∧ text.size ≤ 65535 ∧ (k = 1 ∨ text.size = 0) ∧ ks.length = ts.length ∧ ks.length < 8 ∧ ((k = 6 ∨ k = 7) ∨ ks.length = 0) ∧ badAt (ks ++ ts) = false) := by
  simp only [plainB, Bool.and_eq_true, Bool.or_eq_true, decide_eq_true_eq, Bool.not_eq_true', and_assoc]
theorem txt_empty (text : ByteArray) : text.toList.isEmpty = decide (text.size = 0) := by
  rw [ByteArray.toList_eq, show text.size = text.data.toList.length from (data_length text).symm]
  show text.data.toList.isEmpty = _
  cases text.data.toList with
  | nil => rfl
  | cons x l => simp

theorem blk_new3 (w : World) (a b o : Obj) : (((w.alloc a).alloc b).alloc o).heap[w.heap.size + 1 + 1]? = some o := by
  have h := blk_new ((w.alloc a).alloc b) o
  simpa using h

def PlainPost (w : World) (b : Bool) (e : Ending) (w' : World) : Prop := e = .returned (.bool b) ∧ Below w.heap.size w w'

theorem not_1 {n num : Int} {text : ByteArray} {ks ts : List Int} (h : plainB 1 n num text ks ts = true → False) : plainB 1 n num text ks ts = false := by
  cases hp : plainB 1 n num text ks ts with
  | false => rfl
  | true => exact (h hp).elim

set_option maxHeartbeats 4000000 in
theorem plain_1 (n num : Int) (text : ByteArray) (A4 A5 : Option Addr) (c4 c5 : Nat) (ks ts : List Int) (w : World) (h4 : ReadsInt w .i64 A4 ks.length ks) (h5 : ReadsInt w .i64 A5 ts.length ts) (hc4 : ks.length ≤ c4) (hc5 : ts.length ≤ c5) (hn0 : 0 ≤ n) (hn1 : n ≤ 255) :
    Calls Tryd.prog 12 #[.agg #[.int .u8 1, .int .u8 n, .int .i64 num, .string text, .slice A4 ks.length c4, .slice A5 ts.length c5]] w (PlainPost w (plainB 1 n num text ks ts)) := by
  have H4 := Aside0.mk h4
  have H5 := Aside0.mk h5
  clear h4 h5
  go_enter Tryd.func12, Tryd.ntmps12
  go_wp2_with fail
  refine (takes_1 _).mono ?_
  rintro e w1 ⟨rfl, rfl⟩
  go_wp2_with (go_at_call 23; refine (small_any _ _).mono ?_; rintro e w' ⟨rfl, rfl⟩)
  all_goals first
    | (go_ret
       refine ⟨?_, by first | exact below_alloc (Below.refl _ _) _ | exact below_alloc (below_alloc (Below.refl _ _) _) _⟩
       show Ending.returned (.bool false) = _
       rw [not_1 (fun hp => ?_)]
       obtain ⟨_, _, hno, hsm, hnu, hts, htx, hle, hl8, hcr, _⟩ := (plainB_iff _ _ _ _ _ _).1 hp
       simp [nodeOk, tNum, txt_empty] at *
       first | omega | (simp_all; omega) | (simp_all; done))
    | skip
  refine (concat_two _ A4 A5 c4 c5 ks ts _ ?hb ?h4 ?h5 ?l4 ?l5 hc4 hc5).mono ?_
  case hb => exact blk_new3 _ _ _ _
  case h4 => exact H4.out.below (below_alloc (below_alloc (below_alloc (Below.refl _ _) _) _) _)
  case h5 => exact H5.out.below (below_alloc (below_alloc (below_alloc (Below.refl _ _) _) _) _)
  case l4 => omega
  case l5 => omega
  rintro e w2 ⟨v, rfl, hv, hbl⟩
  obtain ⟨Av, cv, rfl, hrv⟩ := own_reads hv
  have HB2 := Aside0.mk hbl
  clear hv hbl
  go_wp2_with fail
  rw [List.length_append] at hrv
  refine (contains_any Av _ cv (ks ++ ts) _ hrv).mono ?_
  rintro e w3 ⟨rfl, rfl⟩
  go_wp2
  go_ret
  refine ⟨?_, ?_⟩
  · show Ending.returned (.bool (!badAt (ks ++ ts))) = _
    rw [show plainB 1 n num text ks ts = !badAt (ks ++ ts) from ?_]
    have hle : ks.length = ts.length := by omega
    have hl8 : ks.length < 8 := by omega
    have hts : text.size ≤ 65535 := by omega
    have hno : nodeOk 1 n = true := by simp [nodeOk]; try omega
    have hsm : sml num = true := by first | assumption | (simp_all; done)
    have hnu : tNum 1 = true ∨ num = 0 := by first | exact .inl rfl | (right; simp at *; omega)
    have htx : ((1 : Int) = 1 ∨ text.size = 0) := by first | exact .inl rfl | (right; have h2 := (‹_ ∧ (!text.toList.isEmpty) = false›).2; rw [txt_empty] at h2; simpa using h2)
    have hcr : (((1 : Int) = 6 ∨ (1 : Int) = 7) ∨ ks.length = 0) := by first | exact .inl (by decide) | (right; omega)
    rw [Bool.eq_iff_iff, plainB_iff]
    constructor
    · intro h
      simp [h.2.2.2.2.2.2.2.2.2.2]
    · intro h
      exact ⟨by decide, by decide, hno, hsm, hnu, hts, htx, hle, hl8, hcr, by simpa using h⟩
  · exact below_then (below_alloc (below_alloc (below_alloc (Below.refl _ _) _) _) _) (below_alloc (below_alloc (below_alloc (Below.refl _ _) _) _) _).size HB2.out

theorem not_2 {n num : Int} {text : ByteArray} {ks ts : List Int} (h : plainB 2 n num text ks ts = true → False) : plainB 2 n num text ks ts = false := by
  cases hp : plainB 2 n num text ks ts with
  | false => rfl
  | true => exact (h hp).elim

set_option maxHeartbeats 4000000 in
theorem plain_2 (n num : Int) (text : ByteArray) (A4 A5 : Option Addr) (c4 c5 : Nat) (ks ts : List Int) (w : World) (h4 : ReadsInt w .i64 A4 ks.length ks) (h5 : ReadsInt w .i64 A5 ts.length ts) (hc4 : ks.length ≤ c4) (hc5 : ts.length ≤ c5) (hn0 : 0 ≤ n) (hn1 : n ≤ 255) :
    Calls Tryd.prog 12 #[.agg #[.int .u8 2, .int .u8 n, .int .i64 num, .string text, .slice A4 ks.length c4, .slice A5 ts.length c5]] w (PlainPost w (plainB 2 n num text ks ts)) := by
  have H4 := Aside0.mk h4
  have H5 := Aside0.mk h5
  clear h4 h5
  go_enter Tryd.func12, Tryd.ntmps12
  go_wp2_with fail
  refine (takes_2 _).mono ?_
  rintro e w1 ⟨rfl, rfl⟩
  go_wp2_with (go_at_call 23; refine (small_any _ _).mono ?_; rintro e w' ⟨rfl, rfl⟩)
  all_goals first
    | (go_ret
       refine ⟨?_, by first | exact below_alloc (Below.refl _ _) _ | exact below_alloc (below_alloc (Below.refl _ _) _) _⟩
       show Ending.returned (.bool false) = _
       rw [not_2 (fun hp => ?_)]
       obtain ⟨_, _, hno, hsm, hnu, hts, htx, hle, hl8, hcr, _⟩ := (plainB_iff _ _ _ _ _ _).1 hp
       simp [nodeOk, tNum, txt_empty] at *
       first | omega | (simp_all; omega) | (simp_all; done))
    | skip
  refine (concat_two _ A4 A5 c4 c5 ks ts _ ?hb ?h4 ?h5 ?l4 ?l5 hc4 hc5).mono ?_
  case hb => exact blk_new3 _ _ _ _
  case h4 => exact H4.out.below (below_alloc (below_alloc (below_alloc (Below.refl _ _) _) _) _)
  case h5 => exact H5.out.below (below_alloc (below_alloc (below_alloc (Below.refl _ _) _) _) _)
  case l4 => omega
  case l5 => omega
  rintro e w2 ⟨v, rfl, hv, hbl⟩
  obtain ⟨Av, cv, rfl, hrv⟩ := own_reads hv
  have HB2 := Aside0.mk hbl
  clear hv hbl
  go_wp2_with fail
  rw [List.length_append] at hrv
  refine (contains_any Av _ cv (ks ++ ts) _ hrv).mono ?_
  rintro e w3 ⟨rfl, rfl⟩
  go_wp2
  go_ret
  refine ⟨?_, ?_⟩
  · show Ending.returned (.bool (!badAt (ks ++ ts))) = _
    rw [show plainB 2 n num text ks ts = !badAt (ks ++ ts) from ?_]
    have hle : ks.length = ts.length := by omega
    have hl8 : ks.length < 8 := by omega
    have hts : text.size ≤ 65535 := by omega
    have hno : nodeOk 2 n = true := by simp [nodeOk]; try omega
    have hsm : sml num = true := by first | assumption | (simp_all; done)
    have hnu : tNum 2 = true ∨ num = 0 := by first | exact .inl rfl | (right; simp at *; omega)
    have htx : ((2 : Int) = 1 ∨ text.size = 0) := by first | exact .inl rfl | (right; have h2 := (‹_ ∧ (!text.toList.isEmpty) = false›).2; rw [txt_empty] at h2; simpa using h2)
    have hcr : (((2 : Int) = 6 ∨ (2 : Int) = 7) ∨ ks.length = 0) := by first | exact .inl (by decide) | (right; omega)
    rw [Bool.eq_iff_iff, plainB_iff]
    constructor
    · intro h
      simp [h.2.2.2.2.2.2.2.2.2.2]
    · intro h
      exact ⟨by decide, by decide, hno, hsm, hnu, hts, htx, hle, hl8, hcr, by simpa using h⟩
  · exact below_then (below_alloc (below_alloc (below_alloc (Below.refl _ _) _) _) _) (below_alloc (below_alloc (below_alloc (Below.refl _ _) _) _) _).size HB2.out

theorem not_3 {n num : Int} {text : ByteArray} {ks ts : List Int} (h : plainB 3 n num text ks ts = true → False) : plainB 3 n num text ks ts = false := by
  cases hp : plainB 3 n num text ks ts with
  | false => rfl
  | true => exact (h hp).elim

set_option maxHeartbeats 4000000 in
theorem plain_3 (n num : Int) (text : ByteArray) (A4 A5 : Option Addr) (c4 c5 : Nat) (ks ts : List Int) (w : World) (h4 : ReadsInt w .i64 A4 ks.length ks) (h5 : ReadsInt w .i64 A5 ts.length ts) (hc4 : ks.length ≤ c4) (hc5 : ts.length ≤ c5) (hn0 : 0 ≤ n) (hn1 : n ≤ 255) :
    Calls Tryd.prog 12 #[.agg #[.int .u8 3, .int .u8 n, .int .i64 num, .string text, .slice A4 ks.length c4, .slice A5 ts.length c5]] w (PlainPost w (plainB 3 n num text ks ts)) := by
  have H4 := Aside0.mk h4
  have H5 := Aside0.mk h5
  clear h4 h5
  go_enter Tryd.func12, Tryd.ntmps12
  go_wp2_with fail
  refine (takes_3 _).mono ?_
  rintro e w1 ⟨rfl, rfl⟩
  go_wp2_with (go_at_call 23; refine (small_any _ _).mono ?_; rintro e w' ⟨rfl, rfl⟩)
  all_goals first
    | (go_ret
       refine ⟨?_, by first | exact below_alloc (Below.refl _ _) _ | exact below_alloc (below_alloc (Below.refl _ _) _) _⟩
       show Ending.returned (.bool false) = _
       rw [not_3 (fun hp => ?_)]
       obtain ⟨_, _, hno, hsm, hnu, hts, htx, hle, hl8, hcr, _⟩ := (plainB_iff _ _ _ _ _ _).1 hp
       simp [nodeOk, tNum, txt_empty] at *
       first | omega | (simp_all; omega) | (simp_all; done))
    | skip
  refine (concat_two _ A4 A5 c4 c5 ks ts _ ?hb ?h4 ?h5 ?l4 ?l5 hc4 hc5).mono ?_
  case hb => exact blk_new3 _ _ _ _
  case h4 => exact H4.out.below (below_alloc (below_alloc (below_alloc (Below.refl _ _) _) _) _)
  case h5 => exact H5.out.below (below_alloc (below_alloc (below_alloc (Below.refl _ _) _) _) _)
  case l4 => omega
  case l5 => omega
  rintro e w2 ⟨v, rfl, hv, hbl⟩
  obtain ⟨Av, cv, rfl, hrv⟩ := own_reads hv
  have HB2 := Aside0.mk hbl
  clear hv hbl
  go_wp2_with fail
  rw [List.length_append] at hrv
  refine (contains_any Av _ cv (ks ++ ts) _ hrv).mono ?_
  rintro e w3 ⟨rfl, rfl⟩
  go_wp2
  go_ret
  refine ⟨?_, ?_⟩
  · show Ending.returned (.bool (!badAt (ks ++ ts))) = _
    rw [show plainB 3 n num text ks ts = !badAt (ks ++ ts) from ?_]
    have hle : ks.length = ts.length := by omega
    have hl8 : ks.length < 8 := by omega
    have hts : text.size ≤ 65535 := by omega
    have hno : nodeOk 3 n = true := by simp [nodeOk]; try omega
    have hsm : sml num = true := by first | assumption | (simp_all; done)
    have hnu : tNum 3 = true ∨ num = 0 := by first | exact .inl rfl | (right; simp at *; omega)
    have htx : ((3 : Int) = 1 ∨ text.size = 0) := by first | exact .inl rfl | (right; have h2 := (‹_ ∧ (!text.toList.isEmpty) = false›).2; rw [txt_empty] at h2; simpa using h2)
    have hcr : (((3 : Int) = 6 ∨ (3 : Int) = 7) ∨ ks.length = 0) := by first | exact .inl (by decide) | (right; omega)
    rw [Bool.eq_iff_iff, plainB_iff]
    constructor
    · intro h
      simp [h.2.2.2.2.2.2.2.2.2.2]
    · intro h
      exact ⟨by decide, by decide, hno, hsm, hnu, hts, htx, hle, hl8, hcr, by simpa using h⟩
  · exact below_then (below_alloc (below_alloc (below_alloc (Below.refl _ _) _) _) _) (below_alloc (below_alloc (below_alloc (Below.refl _ _) _) _) _).size HB2.out

theorem not_4 {n num : Int} {text : ByteArray} {ks ts : List Int} (h : plainB 4 n num text ks ts = true → False) : plainB 4 n num text ks ts = false := by
  cases hp : plainB 4 n num text ks ts with
  | false => rfl
  | true => exact (h hp).elim

set_option maxHeartbeats 4000000 in
theorem plain_4 (n num : Int) (text : ByteArray) (A4 A5 : Option Addr) (c4 c5 : Nat) (ks ts : List Int) (w : World) (h4 : ReadsInt w .i64 A4 ks.length ks) (h5 : ReadsInt w .i64 A5 ts.length ts) (hc4 : ks.length ≤ c4) (hc5 : ts.length ≤ c5) (hn0 : 0 ≤ n) (hn1 : n ≤ 255) :
    Calls Tryd.prog 12 #[.agg #[.int .u8 4, .int .u8 n, .int .i64 num, .string text, .slice A4 ks.length c4, .slice A5 ts.length c5]] w (PlainPost w (plainB 4 n num text ks ts)) := by
  have H4 := Aside0.mk h4
  have H5 := Aside0.mk h5
  clear h4 h5
  go_enter Tryd.func12, Tryd.ntmps12
  go_wp2_with fail
  refine (takes_4 _).mono ?_
  rintro e w1 ⟨rfl, rfl⟩
  go_wp2_with (go_at_call 23; refine (small_any _ _).mono ?_; rintro e w' ⟨rfl, rfl⟩)
  all_goals first
    | (go_ret
       refine ⟨?_, by first | exact below_alloc (Below.refl _ _) _ | exact below_alloc (below_alloc (Below.refl _ _) _) _⟩
       show Ending.returned (.bool false) = _
       rw [not_4 (fun hp => ?_)]
       obtain ⟨_, _, hno, hsm, hnu, hts, htx, hle, hl8, hcr, _⟩ := (plainB_iff _ _ _ _ _ _).1 hp
       simp [nodeOk, tNum, txt_empty] at *
       first | omega | (simp_all; omega) | (simp_all; done))
    | skip
  refine (concat_two _ A4 A5 c4 c5 ks ts _ ?hb ?h4 ?h5 ?l4 ?l5 hc4 hc5).mono ?_
  case hb => exact blk_new3 _ _ _ _
  case h4 => exact H4.out.below (below_alloc (below_alloc (below_alloc (Below.refl _ _) _) _) _)
  case h5 => exact H5.out.below (below_alloc (below_alloc (below_alloc (Below.refl _ _) _) _) _)
  case l4 => omega
  case l5 => omega
  rintro e w2 ⟨v, rfl, hv, hbl⟩
  obtain ⟨Av, cv, rfl, hrv⟩ := own_reads hv
  have HB2 := Aside0.mk hbl
  clear hv hbl
  go_wp2_with fail
  rw [List.length_append] at hrv
  refine (contains_any Av _ cv (ks ++ ts) _ hrv).mono ?_
  rintro e w3 ⟨rfl, rfl⟩
  go_wp2
  go_ret
  refine ⟨?_, ?_⟩
  · show Ending.returned (.bool (!badAt (ks ++ ts))) = _
    rw [show plainB 4 n num text ks ts = !badAt (ks ++ ts) from ?_]
    have hle : ks.length = ts.length := by omega
    have hl8 : ks.length < 8 := by omega
    have hts : text.size ≤ 65535 := by omega
    have hno : nodeOk 4 n = true := by simp [nodeOk]; try omega
    have hsm : sml num = true := by first | assumption | (simp_all; done)
    have hnu : tNum 4 = true ∨ num = 0 := by first | exact .inl rfl | (right; simp at *; omega)
    have htx : ((4 : Int) = 1 ∨ text.size = 0) := by first | exact .inl rfl | (right; have h2 := (‹_ ∧ (!text.toList.isEmpty) = false›).2; rw [txt_empty] at h2; simpa using h2)
    have hcr : (((4 : Int) = 6 ∨ (4 : Int) = 7) ∨ ks.length = 0) := by first | exact .inl (by decide) | (right; omega)
    rw [Bool.eq_iff_iff, plainB_iff]
    constructor
    · intro h
      simp [h.2.2.2.2.2.2.2.2.2.2]
    · intro h
      exact ⟨by decide, by decide, hno, hsm, hnu, hts, htx, hle, hl8, hcr, by simpa using h⟩
  · exact below_then (below_alloc (below_alloc (below_alloc (Below.refl _ _) _) _) _) (below_alloc (below_alloc (below_alloc (Below.refl _ _) _) _) _).size HB2.out

theorem not_5 {n num : Int} {text : ByteArray} {ks ts : List Int} (h : plainB 5 n num text ks ts = true → False) : plainB 5 n num text ks ts = false := by
  cases hp : plainB 5 n num text ks ts with
  | false => rfl
  | true => exact (h hp).elim

set_option maxHeartbeats 4000000 in
theorem plain_5 (n num : Int) (text : ByteArray) (A4 A5 : Option Addr) (c4 c5 : Nat) (ks ts : List Int) (w : World) (h4 : ReadsInt w .i64 A4 ks.length ks) (h5 : ReadsInt w .i64 A5 ts.length ts) (hc4 : ks.length ≤ c4) (hc5 : ts.length ≤ c5) (hn0 : 0 ≤ n) (hn1 : n ≤ 255) :
    Calls Tryd.prog 12 #[.agg #[.int .u8 5, .int .u8 n, .int .i64 num, .string text, .slice A4 ks.length c4, .slice A5 ts.length c5]] w (PlainPost w (plainB 5 n num text ks ts)) := by
  have H4 := Aside0.mk h4
  have H5 := Aside0.mk h5
  clear h4 h5
  go_enter Tryd.func12, Tryd.ntmps12
  go_wp2_with fail
  refine (takes_5 _).mono ?_
  rintro e w1 ⟨rfl, rfl⟩
  go_wp2_with (go_at_call 23; refine (small_any _ _).mono ?_; rintro e w' ⟨rfl, rfl⟩)
  all_goals first
    | (go_ret
       refine ⟨?_, by first | exact below_alloc (Below.refl _ _) _ | exact below_alloc (below_alloc (Below.refl _ _) _) _⟩
       show Ending.returned (.bool false) = _
       rw [not_5 (fun hp => ?_)]
       obtain ⟨_, _, hno, hsm, hnu, hts, htx, hle, hl8, hcr, _⟩ := (plainB_iff _ _ _ _ _ _).1 hp
       simp [nodeOk, tNum, txt_empty] at *
       first | omega | (simp_all; omega) | (simp_all; done))
    | skip
  refine (concat_two _ A4 A5 c4 c5 ks ts _ ?hb ?h4 ?h5 ?l4 ?l5 hc4 hc5).mono ?_
  case hb => exact blk_new3 _ _ _ _
  case h4 => exact H4.out.below (below_alloc (below_alloc (below_alloc (Below.refl _ _) _) _) _)
  case h5 => exact H5.out.below (below_alloc (below_alloc (below_alloc (Below.refl _ _) _) _) _)
  case l4 => omega
  case l5 => omega
  rintro e w2 ⟨v, rfl, hv, hbl⟩
  obtain ⟨Av, cv, rfl, hrv⟩ := own_reads hv
  have HB2 := Aside0.mk hbl
  clear hv hbl
  go_wp2_with fail
  rw [List.length_append] at hrv
  refine (contains_any Av _ cv (ks ++ ts) _ hrv).mono ?_
  rintro e w3 ⟨rfl, rfl⟩
  go_wp2
  go_ret
  refine ⟨?_, ?_⟩
  · show Ending.returned (.bool (!badAt (ks ++ ts))) = _
    rw [show plainB 5 n num text ks ts = !badAt (ks ++ ts) from ?_]
    have hle : ks.length = ts.length := by omega
    have hl8 : ks.length < 8 := by omega
    have hts : text.size ≤ 65535 := by omega
    have hno : nodeOk 5 n = true := by simp [nodeOk]; try omega
    have hsm : sml num = true := by first | assumption | (simp_all; done)
    have hnu : tNum 5 = true ∨ num = 0 := by first | exact .inl rfl | (right; simp at *; omega)
    have htx : ((5 : Int) = 1 ∨ text.size = 0) := by first | exact .inl rfl | (right; have h2 := (‹_ ∧ (!text.toList.isEmpty) = false›).2; rw [txt_empty] at h2; simpa using h2)
    have hcr : (((5 : Int) = 6 ∨ (5 : Int) = 7) ∨ ks.length = 0) := by first | exact .inl (by decide) | (right; omega)
    rw [Bool.eq_iff_iff, plainB_iff]
    constructor
    · intro h
      simp [h.2.2.2.2.2.2.2.2.2.2]
    · intro h
      exact ⟨by decide, by decide, hno, hsm, hnu, hts, htx, hle, hl8, hcr, by simpa using h⟩
  · exact below_then (below_alloc (below_alloc (below_alloc (Below.refl _ _) _) _) _) (below_alloc (below_alloc (below_alloc (Below.refl _ _) _) _) _).size HB2.out

theorem not_6 {n num : Int} {text : ByteArray} {ks ts : List Int} (h : plainB 6 n num text ks ts = true → False) : plainB 6 n num text ks ts = false := by
  cases hp : plainB 6 n num text ks ts with
  | false => rfl
  | true => exact (h hp).elim

set_option maxHeartbeats 4000000 in
theorem plain_6 (n num : Int) (text : ByteArray) (A4 A5 : Option Addr) (c4 c5 : Nat) (ks ts : List Int) (w : World) (h4 : ReadsInt w .i64 A4 ks.length ks) (h5 : ReadsInt w .i64 A5 ts.length ts) (hc4 : ks.length ≤ c4) (hc5 : ts.length ≤ c5) (hn0 : 0 ≤ n) (hn1 : n ≤ 255) :
    Calls Tryd.prog 12 #[.agg #[.int .u8 6, .int .u8 n, .int .i64 num, .string text, .slice A4 ks.length c4, .slice A5 ts.length c5]] w (PlainPost w (plainB 6 n num text ks ts)) := by
  have H4 := Aside0.mk h4
  have H5 := Aside0.mk h5
  clear h4 h5
  go_enter Tryd.func12, Tryd.ntmps12
  go_wp2_with fail
  refine (takes_6 _).mono ?_
  rintro e w1 ⟨rfl, rfl⟩
  go_wp2_with (go_at_call 23; refine (small_any _ _).mono ?_; rintro e w' ⟨rfl, rfl⟩)
  all_goals first
    | (go_ret
       refine ⟨?_, by first | exact below_alloc (Below.refl _ _) _ | exact below_alloc (below_alloc (Below.refl _ _) _) _⟩
       show Ending.returned (.bool false) = _
       rw [not_6 (fun hp => ?_)]
       obtain ⟨_, _, hno, hsm, hnu, hts, htx, hle, hl8, hcr, _⟩ := (plainB_iff _ _ _ _ _ _).1 hp
       simp [nodeOk, tNum, txt_empty] at *
       first | omega | (simp_all; omega) | (simp_all; done))
    | skip
  refine (concat_two _ A4 A5 c4 c5 ks ts _ ?hb ?h4 ?h5 ?l4 ?l5 hc4 hc5).mono ?_
  case hb => exact blk_new3 _ _ _ _
  case h4 => exact H4.out.below (below_alloc (below_alloc (below_alloc (Below.refl _ _) _) _) _)
  case h5 => exact H5.out.below (below_alloc (below_alloc (below_alloc (Below.refl _ _) _) _) _)
  case l4 => omega
  case l5 => omega
  rintro e w2 ⟨v, rfl, hv, hbl⟩
  obtain ⟨Av, cv, rfl, hrv⟩ := own_reads hv
  have HB2 := Aside0.mk hbl
  clear hv hbl
  go_wp2_with fail
  rw [List.length_append] at hrv
  refine (contains_any Av _ cv (ks ++ ts) _ hrv).mono ?_
  rintro e w3 ⟨rfl, rfl⟩
  go_wp2
  go_ret
  refine ⟨?_, ?_⟩
  · show Ending.returned (.bool (!badAt (ks ++ ts))) = _
    rw [show plainB 6 n num text ks ts = !badAt (ks ++ ts) from ?_]
    have hle : ks.length = ts.length := by omega
    have hl8 : ks.length < 8 := by omega
    have hts : text.size ≤ 65535 := by omega
    have hno : nodeOk 6 n = true := by simp [nodeOk]; try omega
    have hsm : sml num = true := by first | assumption | (simp_all; done)
    have hnu : tNum 6 = true ∨ num = 0 := by first | exact .inl rfl | (right; simp at *; omega)
    have htx : ((6 : Int) = 1 ∨ text.size = 0) := by first | exact .inl rfl | (right; have h2 := (‹_ ∧ (!text.toList.isEmpty) = false›).2; rw [txt_empty] at h2; simpa using h2)
    have hcr : (((6 : Int) = 6 ∨ (6 : Int) = 7) ∨ ks.length = 0) := by first | exact .inl (by decide) | (right; omega)
    rw [Bool.eq_iff_iff, plainB_iff]
    constructor
    · intro h
      simp [h.2.2.2.2.2.2.2.2.2.2]
    · intro h
      exact ⟨by decide, by decide, hno, hsm, hnu, hts, htx, hle, hl8, hcr, by simpa using h⟩
  · exact below_then (below_alloc (below_alloc (below_alloc (Below.refl _ _) _) _) _) (below_alloc (below_alloc (below_alloc (Below.refl _ _) _) _) _).size HB2.out

theorem not_7 {n num : Int} {text : ByteArray} {ks ts : List Int} (h : plainB 7 n num text ks ts = true → False) : plainB 7 n num text ks ts = false := by
  cases hp : plainB 7 n num text ks ts with
  | false => rfl
  | true => exact (h hp).elim

set_option maxHeartbeats 4000000 in
theorem plain_7 (n num : Int) (text : ByteArray) (A4 A5 : Option Addr) (c4 c5 : Nat) (ks ts : List Int) (w : World) (h4 : ReadsInt w .i64 A4 ks.length ks) (h5 : ReadsInt w .i64 A5 ts.length ts) (hc4 : ks.length ≤ c4) (hc5 : ts.length ≤ c5) (hn0 : 0 ≤ n) (hn1 : n ≤ 255) :
    Calls Tryd.prog 12 #[.agg #[.int .u8 7, .int .u8 n, .int .i64 num, .string text, .slice A4 ks.length c4, .slice A5 ts.length c5]] w (PlainPost w (plainB 7 n num text ks ts)) := by
  have H4 := Aside0.mk h4
  have H5 := Aside0.mk h5
  clear h4 h5
  go_enter Tryd.func12, Tryd.ntmps12
  go_wp2_with fail
  refine (takes_7 _).mono ?_
  rintro e w1 ⟨rfl, rfl⟩
  go_wp2_with (go_at_call 23; refine (small_any _ _).mono ?_; rintro e w' ⟨rfl, rfl⟩)
  all_goals first
    | (go_ret
       refine ⟨?_, by first | exact below_alloc (Below.refl _ _) _ | exact below_alloc (below_alloc (Below.refl _ _) _) _⟩
       show Ending.returned (.bool false) = _
       rw [not_7 (fun hp => ?_)]
       obtain ⟨_, _, hno, hsm, hnu, hts, htx, hle, hl8, hcr, _⟩ := (plainB_iff _ _ _ _ _ _).1 hp
       simp [nodeOk, tNum, txt_empty] at *
       first | omega | (simp_all; omega) | (simp_all; done))
    | skip
  refine (concat_two _ A4 A5 c4 c5 ks ts _ ?hb ?h4 ?h5 ?l4 ?l5 hc4 hc5).mono ?_
  case hb => exact blk_new3 _ _ _ _
  case h4 => exact H4.out.below (below_alloc (below_alloc (below_alloc (Below.refl _ _) _) _) _)
  case h5 => exact H5.out.below (below_alloc (below_alloc (below_alloc (Below.refl _ _) _) _) _)
  case l4 => omega
  case l5 => omega
  rintro e w2 ⟨v, rfl, hv, hbl⟩
  obtain ⟨Av, cv, rfl, hrv⟩ := own_reads hv
  have HB2 := Aside0.mk hbl
  clear hv hbl
  go_wp2_with fail
  rw [List.length_append] at hrv
  refine (contains_any Av _ cv (ks ++ ts) _ hrv).mono ?_
  rintro e w3 ⟨rfl, rfl⟩
  go_wp2
  go_ret
  refine ⟨?_, ?_⟩
  · show Ending.returned (.bool (!badAt (ks ++ ts))) = _
    rw [show plainB 7 n num text ks ts = !badAt (ks ++ ts) from ?_]
    have hle : ks.length = ts.length := by omega
    have hl8 : ks.length < 8 := by omega
    have hts : text.size ≤ 65535 := by omega
    have hno : nodeOk 7 n = true := by simp [nodeOk]; try omega
    have hsm : sml num = true := by first | assumption | (simp_all; done)
    have hnu : tNum 7 = true ∨ num = 0 := by first | exact .inl rfl | (right; simp at *; omega)
    have htx : ((7 : Int) = 1 ∨ text.size = 0) := by first | exact .inl rfl | (right; have h2 := (‹_ ∧ (!text.toList.isEmpty) = false›).2; rw [txt_empty] at h2; simpa using h2)
    have hcr : (((7 : Int) = 6 ∨ (7 : Int) = 7) ∨ ks.length = 0) := by first | exact .inl (by decide) | (right; omega)
    rw [Bool.eq_iff_iff, plainB_iff]
    constructor
    · intro h
      simp [h.2.2.2.2.2.2.2.2.2.2]
    · intro h
      exact ⟨by decide, by decide, hno, hsm, hnu, hts, htx, hle, hl8, hcr, by simpa using h⟩
  · exact below_then (below_alloc (below_alloc (below_alloc (Below.refl _ _) _) _) _) (below_alloc (below_alloc (below_alloc (Below.refl _ _) _) _) _).size HB2.out

theorem not_8 {n num : Int} {text : ByteArray} {ks ts : List Int} (h : plainB 8 n num text ks ts = true → False) : plainB 8 n num text ks ts = false := by
  cases hp : plainB 8 n num text ks ts with
  | false => rfl
  | true => exact (h hp).elim

set_option maxHeartbeats 4000000 in
theorem plain_8 (n num : Int) (text : ByteArray) (A4 A5 : Option Addr) (c4 c5 : Nat) (ks ts : List Int) (w : World) (h4 : ReadsInt w .i64 A4 ks.length ks) (h5 : ReadsInt w .i64 A5 ts.length ts) (hc4 : ks.length ≤ c4) (hc5 : ts.length ≤ c5) (hn0 : 0 ≤ n) (hn1 : n ≤ 255) :
    Calls Tryd.prog 12 #[.agg #[.int .u8 8, .int .u8 n, .int .i64 num, .string text, .slice A4 ks.length c4, .slice A5 ts.length c5]] w (PlainPost w (plainB 8 n num text ks ts)) := by
  have H4 := Aside0.mk h4
  have H5 := Aside0.mk h5
  clear h4 h5
  go_enter Tryd.func12, Tryd.ntmps12
  go_wp2_with fail
  refine (takes_8 _).mono ?_
  rintro e w1 ⟨rfl, rfl⟩
  go_wp2_with (go_at_call 23; refine (small_any _ _).mono ?_; rintro e w' ⟨rfl, rfl⟩)
  all_goals first
    | (go_ret
       refine ⟨?_, by first | exact below_alloc (Below.refl _ _) _ | exact below_alloc (below_alloc (Below.refl _ _) _) _⟩
       show Ending.returned (.bool false) = _
       rw [not_8 (fun hp => ?_)]
       obtain ⟨_, _, hno, hsm, hnu, hts, htx, hle, hl8, hcr, _⟩ := (plainB_iff _ _ _ _ _ _).1 hp
       simp [nodeOk, tNum, txt_empty] at *
       first | omega | (simp_all; omega) | (simp_all; done))
    | skip
  refine (concat_two _ A4 A5 c4 c5 ks ts _ ?hb ?h4 ?h5 ?l4 ?l5 hc4 hc5).mono ?_
  case hb => exact blk_new3 _ _ _ _
  case h4 => exact H4.out.below (below_alloc (below_alloc (below_alloc (Below.refl _ _) _) _) _)
  case h5 => exact H5.out.below (below_alloc (below_alloc (below_alloc (Below.refl _ _) _) _) _)
  case l4 => omega
  case l5 => omega
  rintro e w2 ⟨v, rfl, hv, hbl⟩
  obtain ⟨Av, cv, rfl, hrv⟩ := own_reads hv
  have HB2 := Aside0.mk hbl
  clear hv hbl
  go_wp2_with fail
  rw [List.length_append] at hrv
  refine (contains_any Av _ cv (ks ++ ts) _ hrv).mono ?_
  rintro e w3 ⟨rfl, rfl⟩
  go_wp2
  go_ret
  refine ⟨?_, ?_⟩
  · show Ending.returned (.bool (!badAt (ks ++ ts))) = _
    rw [show plainB 8 n num text ks ts = !badAt (ks ++ ts) from ?_]
    have hle : ks.length = ts.length := by omega
    have hl8 : ks.length < 8 := by omega
    have hts : text.size ≤ 65535 := by omega
    have hno : nodeOk 8 n = true := by simp [nodeOk]; try omega
    have hsm : sml num = true := by first | assumption | (simp_all; done)
    have hnu : tNum 8 = true ∨ num = 0 := by first | exact .inl rfl | (right; simp at *; omega)
    have htx : ((8 : Int) = 1 ∨ text.size = 0) := by first | exact .inl rfl | (right; have h2 := (‹_ ∧ (!text.toList.isEmpty) = false›).2; rw [txt_empty] at h2; simpa using h2)
    have hcr : (((8 : Int) = 6 ∨ (8 : Int) = 7) ∨ ks.length = 0) := by first | exact .inl (by decide) | (right; omega)
    rw [Bool.eq_iff_iff, plainB_iff]
    constructor
    · intro h
      simp [h.2.2.2.2.2.2.2.2.2.2]
    · intro h
      exact ⟨by decide, by decide, hno, hsm, hnu, hts, htx, hle, hl8, hcr, by simpa using h⟩
  · exact below_then (below_alloc (below_alloc (below_alloc (Below.refl _ _) _) _) _) (below_alloc (below_alloc (below_alloc (Below.refl _ _) _) _) _).size HB2.out

theorem not_9 {n num : Int} {text : ByteArray} {ks ts : List Int} (h : plainB 9 n num text ks ts = true → False) : plainB 9 n num text ks ts = false := by
  cases hp : plainB 9 n num text ks ts with
  | false => rfl
  | true => exact (h hp).elim

set_option maxHeartbeats 4000000 in
theorem plain_9 (n num : Int) (text : ByteArray) (A4 A5 : Option Addr) (c4 c5 : Nat) (ks ts : List Int) (w : World) (h4 : ReadsInt w .i64 A4 ks.length ks) (h5 : ReadsInt w .i64 A5 ts.length ts) (hc4 : ks.length ≤ c4) (hc5 : ts.length ≤ c5) (hn0 : 0 ≤ n) (hn1 : n ≤ 255) :
    Calls Tryd.prog 12 #[.agg #[.int .u8 9, .int .u8 n, .int .i64 num, .string text, .slice A4 ks.length c4, .slice A5 ts.length c5]] w (PlainPost w (plainB 9 n num text ks ts)) := by
  have H4 := Aside0.mk h4
  have H5 := Aside0.mk h5
  clear h4 h5
  go_enter Tryd.func12, Tryd.ntmps12
  go_wp2_with fail
  refine (takes_9 _).mono ?_
  rintro e w1 ⟨rfl, rfl⟩
  go_wp2_with (go_at_call 23; refine (small_any _ _).mono ?_; rintro e w' ⟨rfl, rfl⟩)
  all_goals first
    | (go_ret
       refine ⟨?_, by first | exact below_alloc (Below.refl _ _) _ | exact below_alloc (below_alloc (Below.refl _ _) _) _⟩
       show Ending.returned (.bool false) = _
       rw [not_9 (fun hp => ?_)]
       obtain ⟨_, _, hno, hsm, hnu, hts, htx, hle, hl8, hcr, _⟩ := (plainB_iff _ _ _ _ _ _).1 hp
       simp [nodeOk, tNum, txt_empty] at *
       first | omega | (simp_all; omega) | (simp_all; done))
    | skip
  refine (concat_two _ A4 A5 c4 c5 ks ts _ ?hb ?h4 ?h5 ?l4 ?l5 hc4 hc5).mono ?_
  case hb => exact blk_new3 _ _ _ _
  case h4 => exact H4.out.below (below_alloc (below_alloc (below_alloc (Below.refl _ _) _) _) _)
  case h5 => exact H5.out.below (below_alloc (below_alloc (below_alloc (Below.refl _ _) _) _) _)
  case l4 => omega
  case l5 => omega
  rintro e w2 ⟨v, rfl, hv, hbl⟩
  obtain ⟨Av, cv, rfl, hrv⟩ := own_reads hv
  have HB2 := Aside0.mk hbl
  clear hv hbl
  go_wp2_with fail
  rw [List.length_append] at hrv
  refine (contains_any Av _ cv (ks ++ ts) _ hrv).mono ?_
  rintro e w3 ⟨rfl, rfl⟩
  go_wp2
  go_ret
  refine ⟨?_, ?_⟩
  · show Ending.returned (.bool (!badAt (ks ++ ts))) = _
    rw [show plainB 9 n num text ks ts = !badAt (ks ++ ts) from ?_]
    have hle : ks.length = ts.length := by omega
    have hl8 : ks.length < 8 := by omega
    have hts : text.size ≤ 65535 := by omega
    have hno : nodeOk 9 n = true := by simp [nodeOk]; try omega
    have hsm : sml num = true := by first | assumption | (simp_all; done)
    have hnu : tNum 9 = true ∨ num = 0 := by first | exact .inl rfl | (right; simp at *; omega)
    have htx : ((9 : Int) = 1 ∨ text.size = 0) := by first | exact .inl rfl | (right; have h2 := (‹_ ∧ (!text.toList.isEmpty) = false›).2; rw [txt_empty] at h2; simpa using h2)
    have hcr : (((9 : Int) = 6 ∨ (9 : Int) = 7) ∨ ks.length = 0) := by first | exact .inl (by decide) | (right; omega)
    rw [Bool.eq_iff_iff, plainB_iff]
    constructor
    · intro h
      simp [h.2.2.2.2.2.2.2.2.2.2]
    · intro h
      exact ⟨by decide, by decide, hno, hsm, hnu, hts, htx, hle, hl8, hcr, by simpa using h⟩
  · exact below_then (below_alloc (below_alloc (below_alloc (Below.refl _ _) _) _) _) (below_alloc (below_alloc (below_alloc (Below.refl _ _) _) _) _).size HB2.out

theorem plain_out (k n num : Int) (text : ByteArray) (A4 A5 : Option Addr) (n4 n5 c4 c5 : Nat) (w : World) (hk : k < 1 ∨ 9 < k) (hk0 : 0 ≤ k) (hk1 : k ≤ 255) :
    Calls Tryd.prog 12 #[.agg #[.int .u8 k, .int .u8 n, .int .i64 num, .string text, .slice A4 n4 c4, .slice A5 n5 c5]] w (PlainPost w false) := by
  rcases hk with hk | hk
  · go_enter Tryd.func12, Tryd.ntmps12
    go_wp2
    go_ret
    exact ⟨rfl, below_alloc (Below.refl _ _) _⟩
  · go_enter Tryd.func12, Tryd.ntmps12
    go_wp2
    go_ret
    exact ⟨rfl, below_alloc (Below.refl _ _) _⟩

theorem plain_any (k n num : Int) (text : ByteArray) (A4 A5 : Option Addr) (c4 c5 : Nat) (ks ts : List Int) (w : World) (h4 : ReadsInt w .i64 A4 ks.length ks) (h5 : ReadsInt w .i64 A5 ts.length ts) (hc4 : ks.length ≤ c4) (hc5 : ts.length ≤ c5) (hk0 : 0 ≤ k) (hk1 : k ≤ 255) (hn0 : 0 ≤ n) (hn1 : n ≤ 255) :
    Calls Tryd.prog 12 #[.agg #[.int .u8 k, .int .u8 n, .int .i64 num, .string text, .slice A4 ks.length c4, .slice A5 ts.length c5]] w (PlainPost w (plainB k n num text ks ts)) := by
  by_cases hk : k < 1 ∨ 9 < k
  · have hf : plainB k n num text ks ts = false := by
      cases hp : plainB k n num text ks ts with
      | false => rfl
      | true => have h := (plainB_iff _ _ _ _ _ _).1 hp; omega
    rw [hf]
    exact plain_out k n num text A4 A5 _ _ c4 c5 w hk hk0 hk1
  · have h9 : k = 1 ∨ k = 2 ∨ k = 3 ∨ k = 4 ∨ k = 5 ∨ k = 6 ∨ k = 7 ∨ k = 8 ∨ k = 9 := by omega
    rcases h9 with rfl | rfl | rfl | rfl | rfl | rfl | rfl | rfl | rfl
    · exact plain_1 n num text A4 A5 c4 c5 ks ts w h4 h5 hc4 hc5 hn0 hn1
    · exact plain_2 n num text A4 A5 c4 c5 ks ts w h4 h5 hc4 hc5 hn0 hn1
    · exact plain_3 n num text A4 A5 c4 c5 ks ts w h4 h5 hc4 hc5 hn0 hn1
    · exact plain_4 n num text A4 A5 c4 c5 ks ts w h4 h5 hc4 hc5 hn0 hn1
    · exact plain_5 n num text A4 A5 c4 c5 ks ts w h4 h5 hc4 hc5 hn0 hn1
    · exact plain_6 n num text A4 A5 c4 c5 ks ts w h4 h5 hc4 hc5 hn0 hn1
    · exact plain_7 n num text A4 A5 c4 c5 ks ts w h4 h5 hc4 hc5 hn0 hn1
    · exact plain_8 n num text A4 A5 c4 c5 ks ts w h4 h5 hc4 hc5 hn0 hn1
    · exact plain_9 n num text A4 A5 c4 c5 ks ts w h4 h5 hc4 hc5 hn0 hn1

#print axioms plain_any
end Go.Proofs.YtahfcdlggaoakaaDoor.Rd

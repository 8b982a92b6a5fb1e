/- Contracts and plain laws, several texts in one: Mer1; ExP; FxS; FxD -/
import Derived.Test.YtakcfcekdngndaaProg
import Derived.WalkKit
import Derived.WalkSpells
import Derived.WalkLawsBesides
import Derived.Lib.Hide
import Derived.BigQuiet
import Derived.Test.YtakcfcekdngndaaBAA
import Derived.Test.YtakcfcekdngndaaBAF
import Derived.Test.YtakcfcekdngndaaBAG
/- Contracts of package meridian and its reference: latitudes at the meridian. -/
namespace Go.Proofs.Ytakcfcekdngndaa
open Go.RowKit

def latB (x0 y0 : Int) : Bool := decide (x0 ≤ y0 ∧ -5400000 ≤ x0 ∧ y0 ≤ 5400000)
theorem latB_iff {x0 y0 : Int} : latB x0 y0 = true ↔ x0 ≤ y0 ∧ -5400000 ≤ x0 ∧ y0 ≤ 5400000 := by simp [latB]
theorem lat_valid {x0 y0 : Int} (h : latB x0 y0 = true) : validB x0 y0 = true := by
  have := latB_iff.1 h; rw [validB_iff]; omega
set_option maxHeartbeats 400000 in
theorem ref25_Latitude (x0 y0 : Int) (w : World) :
    Calls Try.prog 10 #[(.agg #[.int .i64 (x0), .int .i64 (y0)])] w fun e w' => e = .returned (.bool (latB x0 y0)) ∧ ∃ d, w' = bw w d := by
  refine lay_start ?_
  go_enter Try.func10, Try.ntmps10
  go_wp2
  all_goals go_ret
  all_goals exact ⟨ret_bool (by rw [Bool.eq_iff_iff]; simp [latB]; omega), lay_ex _ _⟩
theorem lat_w1 {x0 y0 : Int} (h1 : validB x0 y0 = true) (h2 : -5400000 ≤ x0) : decide (y0 ≤ 5400000) = latB x0 y0 := by
  have := validB_iff.1 h1; rw [Bool.eq_iff_iff]; simp [latB]; omega
theorem lat_w2 {x0 y0 : Int} (h2 : x0 < -5400000) : false = latB x0 y0 := by rw [Bool.eq_iff_iff]; simp [latB]; omega
theorem lat_w3 {x0 y0 : Int} (h1 : ¬ validB x0 y0 = true) : false = latB x0 y0 := by
  rw [validB_iff] at h1; rw [Bool.eq_iff_iff]; simp [latB]; omega
set_option maxHeartbeats 400000 in
theorem mer_latitude (x0 y0 : Int) (w : World) :
    Calls Try.prog 24 #[(.agg #[.int .i64 (x0), .int .i64 (y0)])] w fun e w' => e = .returned (.bool (latB x0 y0)) ∧ ∃ d, w' = bw w d := by
  refine lay_start ?_
  go_enter Try.func24, Try.ntmps24
  go_wp2_with (go_at_call 29; refine (angle_Valid _ _ _).mono ?_; rintro e w' ⟨rfl, d, rfl⟩)
  all_goals go_ret
  all_goals exact ⟨ret_bool (by first | exact lat_w1 ‹_› ‹_› | exact lat_w2 ‹_› | exact lat_w3 ‹_›), lay_ex _ _⟩
/-- The part of an arc that is one of latitudes. -/
def lsLo (x0 y0 : Int) : Int := if max x0 (-5400000) ≤ min y0 5400000 then max x0 (-5400000) else 0
def lsHi (x0 y0 : Int) : Int := if max x0 (-5400000) ≤ min y0 5400000 then min y0 5400000 else 0
def lsE (x0 y0 : Int) : Int := if max x0 (-5400000) ≤ min y0 5400000 then 0 else 2
theorem ls_good {x0 y0 : Int} (h : mx x0 (-5400000) ≤ mn y0 5400000) : mx x0 (-5400000) = lsLo x0 y0 ∧ mn y0 5400000 = lsHi x0 y0 ∧ 0 = lsE x0 y0 := by
  rw [mx_eq, mn_eq] at *; unfold lsLo lsHi lsE; omega
theorem ls_bad {x0 y0 : Int} (h : mn y0 5400000 < mx x0 (-5400000)) : 0 = lsLo x0 y0 ∧ 0 = lsHi x0 y0 ∧ 2 = lsE x0 y0 := by
  rw [mx_eq, mn_eq] at *; unfold lsLo lsHi lsE; omega
set_option maxHeartbeats 400000 in
theorem mer_latitudes (x0 y0 : Int) (w : World) :
    Calls Try.prog 25 #[(.agg #[.int .i64 (x0), .int .i64 (y0)])] w fun e w' => e = .returned (.tuple #[(.agg #[.int .i64 (lsLo x0 y0), .int .i64 (lsHi x0 y0)]), .int .i64 (lsE x0 y0)]) ∧ ∃ d, w' = bw w d := by
  refine lay_start ?_
  go_enter Try.func25, Try.ntmps25
  go_wp2
  · obtain ⟨g1, g2, g3⟩ := ls_bad (x0 := x0) (y0 := y0) ‹_›
    exact bodyPost_ret (v := .tuple #[(.agg #[.int .i64 (lsLo x0 y0), .int .i64 (lsHi x0 y0)]), .int .i64 (lsE x0 y0)]) (by simp [results, Try.results25, go_sem, ← g1, ← g2, ← g3]) rfl ⟨rfl, lay_ex _ _⟩
  · obtain ⟨g1, g2, g3⟩ := ls_good (x0 := x0) (y0 := y0) ‹_›
    exact bodyPost_ret (v := .tuple #[(.agg #[.int .i64 (lsLo x0 y0), .int .i64 (lsHi x0 y0)]), .int .i64 (lsE x0 y0)]) (by simp [results, Try.results25, go_sem, ← g1, ← g2, ← g3]) rfl ⟨rfl, lay_ex _ _⟩
theorem ls_meets {x0 y0 : Int} (h : meetsB x0 y0 (-5400000) 5400000 = true) (hxy : x0 ≤ y0) : mx x0 (-5400000) = lsLo x0 y0 ∧ mn y0 5400000 = lsHi x0 y0 ∧ 0 = lsE x0 y0 := by
  simp [meetsB] at h
  rw [mx_eq, mn_eq] at *; unfold lsLo lsHi lsE; omega
theorem ls_misses {x0 y0 : Int} (h : meetsB x0 y0 (-5400000) 5400000 = false) (_hxy : x0 ≤ y0) : 0 = lsLo x0 y0 ∧ 0 = lsHi x0 y0 ∧ 2 = lsE x0 y0 := by
  simp [meetsB] at h
  unfold lsLo lsHi lsE; omega
set_option maxHeartbeats 400000 in
theorem mer_plus (x0 y0 x1 y1 : Int) (w : World) (h1 : -9223372036854775807 ≤ x0 + x1) (h2 : x0 + x1 ≤ 9223372036854775807) (h3 : -9223372036854775807 ≤ y0 + y1) (h4 : y0 + y1 ≤ 9223372036854775807) :
    Calls Try.prog 26 #[(.agg #[.int .i64 (x0), .int .i64 (y0)]), (.agg #[.int .i64 (x1), .int .i64 (y1)])] w fun e w' => e = .returned (.agg #[.int .i64 (x0 + x1), .int .i64 (y0 + y1)]) ∧ ∃ d, w' = bw w d := by
  refine lay_start ?_
  go_enter Try.func26, Try.ntmps26
  go_wp2
  exact bodyPost_ret (v := (.agg #[.int .i64 (x0 + x1), .int .i64 (y0 + y1)])) (by simp [results, Try.results26, go_sem]) rfl ⟨rfl, lay_ex _ _⟩
set_option maxHeartbeats 400000 in
theorem mer_minus (x0 y0 x1 y1 : Int) (w : World) (h1 : -9223372036854775807 ≤ x0 - y1) (h2 : x0 - y1 ≤ 9223372036854775807) (h3 : -9223372036854775807 ≤ y0 - x1) (h4 : y0 - x1 ≤ 9223372036854775807) :
    Calls Try.prog 28 #[(.agg #[.int .i64 (x0), .int .i64 (y0)]), (.agg #[.int .i64 (x1), .int .i64 (y1)])] w fun e w' => e = .returned (.agg #[.int .i64 (x0 - y1), .int .i64 (y0 - x1)]) ∧ ∃ d, w' = bw w d := by
  refine lay_start ?_
  go_enter Try.func28, Try.ntmps28
  go_wp2
  exact bodyPost_ret (v := (.agg #[.int .i64 (x0 - y1), .int .i64 (y0 - x1)])) (by simp [results, Try.results28, go_sem]) rfl ⟨rfl, lay_ex _ _⟩
set_option maxHeartbeats 400000 in
theorem mer_rest (x0 y0 : Int) (w : World) (h1 : -9223372036849375807 ≤ x0) (h2 : x0 ≤ 9223372036849375807) (h3 : -9223372036849375807 ≤ y0) (h4 : y0 ≤ 9223372036849375807) :
    Calls Try.prog 27 #[(.agg #[.int .i64 (x0), .int .i64 (y0)])] w fun e w' => e = .returned (.agg #[.int .i64 (5400000 - y0), .int .i64 (5400000 - x0)]) ∧ ∃ d, w' = bw w d := by
  refine lay_start ?_
  go_enter Try.func27, Try.ntmps27
  go_wp2
  exact bodyPost_ret (v := (.agg #[.int .i64 (5400000 - y0), .int .i64 (5400000 - x0)])) (by simp [results, Try.results27, go_sem]) rfl ⟨rfl, lay_ex _ _⟩
set_option maxHeartbeats 400000 in
theorem law33_one (n : Int) (w : World) :
    Calls Try.prog 9 #[.int .i64 n] w fun e w' => e = .returned (.agg #[.int .i64 (n), .int .i64 (n)]) ∧ ∃ d, w' = bw w d := by
  refine lay_start ?_
  go_enter Try.func9, Try.ntmps9
  go_wp2
  exact bodyPost_ret (v := (.agg #[.int .i64 (n), .int .i64 (n)])) (by simp [results, Try.results9, go_sem]) rfl ⟨rfl, lay_ex _ _⟩
end Go.Proofs.Ytakcfcekdngndaa
/- The latitude by an ex-meridian altitude: what is reckoned. No program in sight. -/
namespace Go.Proofs.Ytakcfcekdngndaa
open Go.RowKit

def cosL (lo hi : Int) : Int := encL (lo + 5400000) (hi + 5400000)
def cosH (lo hi : Int) : Int := encH (lo + 5400000) (hi + 5400000)
theorem cos_in2 (lo hi : Int) : -1073741824 ≤ cosL lo hi ∧ cosL lo hi ≤ cosH lo hi ∧ cosH lo hi ≤ 1073741824 := enc_in
/-- The product of two cosines. -/
def ccL (a0 a1 b0 b1 : Int) : Int := mulL (cosL a0 a1) (cosH a0 a1) (cosL b0 b1) (cosH b0 b1)
def ccH (a0 a1 b0 b1 : Int) : Int := mulH (cosL a0 a1) (cosH a0 a1) (cosL b0 b1) (cosH b0 b1)
theorem cc_in (a0 a1 b0 b1 : Int) : -1073741824 ≤ ccL a0 a1 b0 b1 ∧ ccL a0 a1 b0 b1 ≤ ccH a0 a1 b0 b1 ∧ ccH a0 a1 b0 b1 ≤ 1073741824 := by
  obtain ⟨p1, p2, p3⟩ := cos_in2 a0 a1
  obtain ⟨q1, q2, q3⟩ := cos_in2 b0 b1
  exact mul_unit p1 p2 p3 q1 q2 q3
/-- And with a haversine. -/
def chL (a0 a1 b0 b1 c0 c1 : Int) : Int := mulL (ccL a0 a1 b0 b1) (ccH a0 a1 b0 b1) (havL c0 c1) (havH c0 c1)
def chH (a0 a1 b0 b1 c0 c1 : Int) : Int := mulH (ccL a0 a1 b0 b1) (ccH a0 a1 b0 b1) (havL c0 c1) (havH c0 c1)
theorem ch_in (a0 a1 b0 b1 c0 c1 : Int) : -1073741824 ≤ chL a0 a1 b0 b1 c0 c1 ∧ chL a0 a1 b0 b1 c0 c1 ≤ chH a0 a1 b0 b1 c0 c1 ∧ chH a0 a1 b0 b1 c0 c1 ≤ 1073741824 := by
  obtain ⟨p1, p2, p3⟩ := cc_in a0 a1 b0 b1
  obtain ⟨q1, q2, q3⟩ := hav_in c0 c1
  exact mul_unit p1 p2 p3 (by omega) q2 q3
theorem unit_fx {a b : Int} (h : -1073741824 ≤ a ∧ a ≤ b ∧ b ≤ 1073741824) : fxB a b = true := fxB_iff.2 (by omega)
/-- The haversine of the zenith distance on the meridian. -/
def exN0 (h0 h1 a0 a1 b0 b1 c0 c1 : Int) : Int := havL (5400000 - h1) (5400000 - h0) - chH a0 a1 b0 b1 c0 c1
def exN1 (h0 h1 a0 a1 b0 b1 c0 c1 : Int) : Int := havH (5400000 - h1) (5400000 - h0) - chL a0 a1 b0 b1 c0 c1
theorem exN_fx (h0 h1 a0 a1 b0 b1 c0 c1 : Int) : fxB (exN0 h0 h1 a0 a1 b0 b1 c0 c1) (exN1 h0 h1 a0 a1 b0 b1 c0 c1) = true := by
  have q := hav_in (5400000 - h1) (5400000 - h0)
  have p := ch_in a0 a1 b0 b1 c0 c1
  unfold exN0 exN1
  rw [fxB_iff]
  omega
theorem ahE_two {lo hi : Int} (h : fxB lo hi = true) : ahE lo hi = 0 ∨ ahE lo hi = 2 := by
  unfold ahE
  rw [h, if_neg (by decide)]
  split
  · exact .inr rfl
  · exact .inl rfl
theorem ah_in {lo hi : Int} (h : ahE lo hi = 0) : 0 ≤ ahL lo hi ∧ ahL lo hi ≤ 10800000 ∧ 0 ≤ ahH lo hi ∧ ahH lo hi ≤ 10800000 := by
  have e := ah_as h
  unfold ahL ahH
  rw [if_pos h, if_pos h]
  generalize 1073741824 - 2 * mn hi 1073741824 = x at *
  generalize 1073741824 - 2 * mx lo 0 = y at *
  unfold asL asH
  rw [if_pos e, if_pos e]
  have h1 := asnI_in (v := mx x (-1073741824)) (by rw [mx_eq]; omega)
  have h2 := asnI_in (v := -(mn y 1073741824)) (by rw [mn_eq]; omega)
  omega
/-- The zenith distance is an arc. -/
theorem ah_le {lo hi : Int} (h : ahE lo hi = 0) : ahL lo hi ≤ ahH lo hi := by
  have e := ah_as h
  unfold ahL ahH
  rw [if_pos h, if_pos h]
  generalize 1073741824 - 2 * mn hi 1073741824 = x at *
  generalize 1073741824 - 2 * mx lo 0 = y at *
  rw [asE_at] at e
  unfold asL asH
  by_cases c1 : fxB x y = false
  · rw [if_pos c1] at e; cases e
  rw [if_neg c1] at e
  by_cases c2 : mn y 1073741824 < mx x (-1073741824)
  · rw [if_pos c2] at e; cases e
  have e2 : asE x y = 0 := by rw [asE_at, if_neg c1, if_neg c2]
  rw [if_pos e2, if_pos e2]
  have hs := asn_sum (y := mx x (-1073741824)) (by rw [mx_eq]; omega) (by rw [mx_eq, mn_eq] at *; omega)
  have hm := asnI_mono (v := -(mn y 1073741824)) (u := -(mx x (-1073741824))) (by rw [mn_eq]; omega) (by omega)
  omega
/-- Where the latitude lies: beside the declination, on the side where the arc is, or on both. -/
def outL (a0 a1 b0 b1 z0 z1 : Int) : Int := if b1 ≤ a0 then b0 + z0 else if a1 ≤ b0 then b0 - z1 else mn (b0 + z0) (b0 - z1)
def outH (a0 a1 b0 b1 z0 z1 : Int) : Int := if b1 ≤ a0 then b1 + z1 else if a1 ≤ b0 then b1 - z0 else mx (b1 + z1) (b1 - z0)
theorem out_in {a0 a1 b0 b1 z0 z1 : Int} (hb : -5400000 ≤ b0 ∧ b0 ≤ b1 ∧ b1 ≤ 5400000) (hz : 0 ≤ z0 ∧ z0 ≤ z1 ∧ z1 ≤ 10800000) : -16200000 ≤ outL a0 a1 b0 b1 z0 z1 ∧ outL a0 a1 b0 b1 z0 z1 ≤ outH a0 a1 b0 b1 z0 z1 ∧ outH a0 a1 b0 b1 z0 z1 ≤ 16200000 := by
  unfold outL outH
  rw [mn_eq, mx_eq]
  split
  · omega
  · split <;> omega
/-- The latitude: its error, its ends. -/
noncomputable def exE (a0 a1 b0 b1 n0 n1 : Int) : Int := if ahE n0 n1 = 0 then meetE a0 a1 (outL a0 a1 b0 b1 (ahL n0 n1) (ahH n0 n1)) (outH a0 a1 b0 b1 (ahL n0 n1) (ahH n0 n1)) else 12
noncomputable def exL (a0 a1 b0 b1 n0 n1 : Int) : Int := if ahE n0 n1 = 0 then meetLo a0 a1 (outL a0 a1 b0 b1 (ahL n0 n1) (ahH n0 n1)) (outH a0 a1 b0 b1 (ahL n0 n1) (ahH n0 n1)) else 0
noncomputable def exH (a0 a1 b0 b1 n0 n1 : Int) : Int := if ahE n0 n1 = 0 then meetHi a0 a1 (outL a0 a1 b0 b1 (ahL n0 n1) (ahH n0 n1)) (outH a0 a1 b0 b1 (ahL n0 n1) (ahH n0 n1)) else 0
end Go.Proofs.Ytakcfcekdngndaa
/- fixed: Sub, Add, fit at any ends. -/
namespace Go.Proofs.Ytakcfcekdngndaa
open Go.RowKit

set_option maxRecDepth 100000 in
theorem fx_SubG (a0 a1 b0 b1 : Int) (w : World) (ha : fxB a0 a1 = true) (hb : fxB b0 b1 = true) (hm : fxB (a0 - b1) (a1 - b0) = true) :
    Calls Try.prog 31 #[(.agg #[.int .i64 (a0), .int .i64 (a1)]), (.agg #[.int .i64 (b0), .int .i64 (b1)])] w fun e w' => e = .returned (.tuple #[(.agg #[.int .i64 (a0 - b1), .int .i64 (a1 - b0)]), .int .i64 0]) ∧ ∃ d, w' = bw w d := by
  have HB := Lib.hid (fun W => fx_bothG a0 a1 b0 b1 W)
  rw [ha, hb, Bool.and_self] at HB
  have HT := Lib.hid (fun W => fx_fitG _ _ W hm)
  have hf := fxB_iff.1 hm
  have hfa := fxB_iff.1 ha
  have hfb := fxB_iff.1 hb
  have k1 : IntKind.i64.wrap (a0 - b1) = a0 - b1 := IntWalk.i64_in _ (by omega)
  have k2 : IntKind.i64.wrap (a1 - b0) = a1 - b0 := IntWalk.i64_in _ (by omega)
  clear hf hfa hfb ha hb hm
  refine lay_start ?_
  go_enter Try.func31, Try.ntmps31
  go_wp2_with (first | (go_at_call 51; refine (HB.out _).mono ?_; rintro e w' ⟨rfl, d, rfl⟩) | (go_at_call 52; refine (HT.out _).mono ?_; rintro e w' ⟨rfl, d1, rfl⟩))
  exact bodyPost_ret (v := .tuple #[(.agg #[.int .i64 (a0 - b1), .int .i64 (a1 - b0)]), .int .i64 0]) (by simp [results, Try.results31, go_sem]) rfl ⟨rfl, lay_ex _ _⟩
set_option maxRecDepth 100000 in
theorem fx_AddG (a0 a1 b0 b1 : Int) (w : World) (ha : fxB a0 a1 = true) (hb : fxB b0 b1 = true) (hm : fxB (a0 + b0) (a1 + b1) = true) :
    Calls Try.prog 74 #[(.agg #[.int .i64 (a0), .int .i64 (a1)]), (.agg #[.int .i64 (b0), .int .i64 (b1)])] w fun e w' => e = .returned (.tuple #[(.agg #[.int .i64 (a0 + b0), .int .i64 (a1 + b1)]), .int .i64 0]) ∧ ∃ d, w' = bw w d := by
  have HB := Lib.hid (fun W => fx_bothG a0 a1 b0 b1 W)
  rw [ha, hb, Bool.and_self] at HB
  have HT := Lib.hid (fun W => fx_fitG _ _ W hm)
  have hf := fxB_iff.1 hm
  have hfa := fxB_iff.1 ha
  have hfb := fxB_iff.1 hb
  have k1 : IntKind.i64.wrap (a0 + b0) = a0 + b0 := IntWalk.i64_in _ (by omega)
  have k2 : IntKind.i64.wrap (a1 + b1) = a1 + b1 := IntWalk.i64_in _ (by omega)
  clear hf hfa hfb ha hb hm
  refine lay_start ?_
  go_enter Try.func74, Try.ntmps74
  go_wp2_with (first | (go_at_call 51; refine (HB.out _).mono ?_; rintro e w' ⟨rfl, d, rfl⟩) | (go_at_call 52; refine (HT.out _).mono ?_; rintro e w' ⟨rfl, d1, rfl⟩))
  exact bodyPost_ret (v := .tuple #[(.agg #[.int .i64 (a0 + b0), .int .i64 (a1 + b1)]), .int .i64 0]) (by simp [results, Try.results74, go_sem]) rfl ⟨rfl, lay_ex _ _⟩
set_option maxRecDepth 100000 in
theorem fx_fitX (lo hi : Int) (w : World) :
    Calls Try.prog 52 #[.int .i64 lo, .int .i64 hi] w fun e w' => e = .returned (.tuple #[(.agg #[.int .i64 (if fxB lo hi then lo else 0), .int .i64 (if fxB lo hi then hi else 0)]), .int .i64 (if fxB lo hi then 0 else 5)]) ∧ ∃ d, w' = bw w d := by
  cases h : fxB lo hi
  · have HV := Lib.hid (fun W => fx_ValidG lo hi W)
    rw [h] at HV
    refine lay_start ?_
    go_enter Try.func52, Try.ntmps52
    go_wp2_with (go_at_call 55; refine (HV.out _).mono ?_; rintro e w' ⟨rfl, d, rfl⟩)
    exact bodyPost_ret (v := .tuple #[(.agg #[.int .i64 (0), .int .i64 (0)]), .int .i64 5]) (by simp [results, Try.results52, go_sem]) rfl ⟨rfl, lay_ex _ _⟩
  · exact fx_fitG lo hi w h
end Go.Proofs.Ytakcfcekdngndaa
/- fixed.Div by a positive divisor. -/
namespace Go.Proofs.Ytakcfcekdngndaa
open Go.RowKit

theorem fx_zeroP (b0 b1 : Int) (w : World) (h : 1 ≤ b0) :
    Calls Try.prog 65 #[(.agg #[.int .i64 (b0), .int .i64 (b1)])] w fun e w' => e = .returned (.bool false) ∧ ∃ d, w' = bw w d := by
  have h1 : ¬ b0 ≤ 0 := by omega
  clear h
  refine lay_start ?_
  go_enter Try.func65, Try.ntmps65
  go_wp2
  go_ret
  exact ⟨rfl, lay_ex _ _⟩
theorem four_lo {q00 q01 q10 q11 : Int} (h0 : q00 ≤ q10) (h1 : q01 ≤ q11) : mn (mn (mn (mn q00 q00) q01) q10) q11 = mn q00 q01 := by simp only [mn_eq]; omega
theorem four_hi {q00 q01 q10 q11 : Int} (h0 : q00 ≤ q10) (h1 : q01 ≤ q11) : mx (mx (mx (mx q00 q00) q01) q10) q11 = mx q10 q11 := by simp only [mx_eq]; omega
set_option maxHeartbeats 2000000 in
set_option maxRecDepth 100000 in
theorem fx_DivP (a0 a1 b0 b1 : Int) (w : World) (ha : fxB a0 a1 = true) (hb : fxB b0 b1 = true) (h1 : 1 ≤ b0) :
    Calls Try.prog 42 #[(.agg #[.int .i64 (a0), .int .i64 (a1)]), (.agg #[.int .i64 (b0), .int .i64 (b1)])] w fun e w' => e = .returned (.tuple #[(.agg #[.int .i64 (if fxB (divL a0 b0 b1) (divH a1 b0 b1) then divL a0 b0 b1 else 0), .int .i64 (if fxB (divL a0 b0 b1) (divH a1 b0 b1) then divH a1 b0 b1 else 0)]), .int .i64 (if fxB (divL a0 b0 b1) (divH a1 b0 b1) then 0 else 5)]) ∧ ∃ d, w' = bw w d := by
  have HB := Lib.hid (fun W => fx_bothG a0 a1 b0 b1 W)
  rw [ha, hb, Bool.and_self] at HB
  have HZ := Lib.hid (fun W => fx_zeroP b0 b1 W h1)
  have ga := fxB_iff.1 ha
  have gb := fxB_iff.1 hb
  have HF := Lib.hid (fun W => fx_fitX (divL a0 b0 b1) (divH a1 b0 b1) W)
  generalize (if fxB (divL a0 b0 b1) (divH a1 b0 b1) then divL a0 b0 b1 else 0) = r0 at *
  generalize (if fxB (divL a0 b0 b1) (divH a1 b0 b1) then divH a1 b0 b1 else 0) = r1 at *
  generalize (if fxB (divL a0 b0 b1) (divH a1 b0 b1) then (0 : Int) else 5) = re at *
  unfold divL divH at HF
  have m0 : a0 * 1073741824 / b0 ≤ a1 * 1073741824 / b0 := Int.ediv_le_ediv (by omega) (by omega)
  have m1 : a0 * 1073741824 / b1 ≤ a1 * 1073741824 / b1 := Int.ediv_le_ediv (by omega) (by omega)
  have m2 : -(a1 * 1073741824) / b0 ≤ -(a0 * 1073741824) / b0 := Int.ediv_le_ediv (by omega) (by omega)
  have m3 : -(a1 * 1073741824) / b1 ≤ -(a0 * 1073741824) / b1 := Int.ediv_le_ediv (by omega) (by omega)
  have F00 := Lib.hid (fun W => fx_floorG (a0 * 1073741824) b0 W h1 (by omega) (by omega))
  have F01 := Lib.hid (fun W => fx_floorG (a0 * 1073741824) b1 W (by omega) (by omega) (by omega))
  have F10 := Lib.hid (fun W => fx_floorG (a1 * 1073741824) b0 W h1 (by omega) (by omega))
  have F11 := Lib.hid (fun W => fx_floorG (a1 * 1073741824) b1 W (by omega) (by omega) (by omega))
  have C00 := Lib.hid (fun W => fx_ceilG (a0 * 1073741824) b0 W h1 (by omega) (by omega))
  have C01 := Lib.hid (fun W => fx_ceilG (a0 * 1073741824) b1 W (by omega) (by omega) (by omega))
  have C10 := Lib.hid (fun W => fx_ceilG (a1 * 1073741824) b0 W h1 (by omega) (by omega))
  have C11 := Lib.hid (fun W => fx_ceilG (a1 * 1073741824) b1 W (by omega) (by omega) (by omega))
  have kx : IntKind.i64.wrap (a0 * 1073741824) = a0 * 1073741824 := IntWalk.i64_in _ (by omega)
  have ky : IntKind.i64.wrap (a1 * 1073741824) = a1 * 1073741824 := IntWalk.i64_in _ (by omega)
  obtain ⟨X, hX⟩ : ∃ X, a0 * 1073741824 = X := ⟨_, rfl⟩
  obtain ⟨Y, hY⟩ : ∃ Y, a1 * 1073741824 = Y := ⟨_, rfl⟩
  have k1 : IntKind.i64.wrap (a0 * 1073741824) = X := kx.trans hX
  have k2 : IntKind.i64.wrap (a1 * 1073741824) = Y := ky.trans hY
  simp only [hX, hY] at F00 F01 F10 F11 C00 C01 C10 C11 m0 m1 m2 m3 HF
  clear kx ky hX hY ga gb ha hb h1
  generalize X / b0 = q00 at *
  generalize X / b1 = q01 at *
  generalize Y / b0 = q10 at *
  generalize Y / b1 = q11 at *
  obtain ⟨c00, e00⟩ : ∃ c, -(-X / b0) = c := ⟨_, rfl⟩
  obtain ⟨c01, e01⟩ : ∃ c, -(-X / b1) = c := ⟨_, rfl⟩
  obtain ⟨c10, e10⟩ : ∃ c, -(-Y / b0) = c := ⟨_, rfl⟩
  obtain ⟨c11, e11⟩ : ∃ c, -(-Y / b1) = c := ⟨_, rfl⟩
  have n0 : c00 ≤ c10 := by omega
  have n1 : c01 ≤ c11 := by omega
  rw [e00] at C00
  rw [e01] at C01
  rw [e10] at C10 HF
  rw [e11] at C11 HF
  rw [← four_lo m0 m1, ← four_hi n0 n1] at HF
  clear m0 m1 m2 m3 n0 n1 e00 e01 e10 e11
  generalize hu1 : mn q00 q00 = u1 at *
  generalize hu2 : mn u1 q01 = u2 at *
  generalize hu3 : mn u2 q10 = u3 at *
  generalize hu4 : mn u3 q11 = u4 at *
  generalize hv1 : mx c00 c00 = v1 at *
  generalize hv2 : mx v1 c01 = v2 at *
  generalize hv3 : mx v2 c10 = v3 at *
  generalize hv4 : mx v3 c11 = v4 at *
  refine lay_start ?_
  go_enter Try.func42, Try.ntmps42
  go_wp2_with (first | (go_at_call 51; refine (HB.out _).mono ?_; rintro e w' ⟨rfl, d1, rfl⟩; rw [lay_bw]) | (go_at_call 65; refine (HZ.out _).mono ?_; rintro e w' ⟨rfl, d2, rfl⟩; rw [lay_bw]))
  refine region_bw (by kernel_rfl) (by kernel_rfl) ?_
  repeat (go_big_quiet_step ((first | (go_at_call 66; exact bqs (F00.out _) ⟨_, rfl⟩) | (go_at_call 67; exact bqs (C00.out _) ⟨_, rfl⟩))))
  refine wpQuiet_nil ?_
  rintro w' ⟨d, rfl⟩
  rw [lay_bw]
  go_wp2_with fail
  go_loopw [40, 6, 7] (fun v40 v6 v7 wr => ∃ (i l h : Int) (dd : Ext), v40 = .int .i64 i ∧ v6 = .int .i64 l ∧ v7 = .int .i64 h ∧ wr = lay w (.inr dd :: [.inl (Obj.cells #[.int .i64 a0, .int .i64 a1] 3), .inr d, .inr d2, .inr d1, .inl (Obj.cells #[.int .i64 0, .int .i64 0] 48), .inl (Obj.cells #[.int .i64 b0, .int .i64 b1] 48), .inl (Obj.cells #[.int .i64 a0, .int .i64 a1] 48)]) ∧ ((i = 0 ∧ q00 = l ∧ c00 = h) ∨ (i = 1 ∧ u2 = l ∧ v2 = h) ∨ (i = 2 ∧ u4 = l ∧ v4 = h))) (fun v40 _ _ _ => (3 - intOf v40).toNat)
  case atStart => exact ⟨_, _, _, noExt _, rfl, rfl, rfl, (bw_noExt _).symm, .inl ⟨rfl, rfl, rfl⟩⟩
  case round =>
    obtain ⟨i, l, h, dd, rfl, rfl, rfl, rfl, hi⟩ := hrel
    rcases hi with ⟨rfl, rfl, rfl⟩ | ⟨rfl, rfl, rfl⟩ | ⟨rfl, rfl, rfl⟩
    · clear HB HZ F10 F11 C10 C11 HF hu3 hu4 hv3 hv4 k2
      go_wp2_with fail
      go_loopw [50, 6, 7] (fun v50 v6 v7 wr => ∃ (j l h : Int) (de : Ext), v50 = .int .i64 j ∧ v6 = .int .i64 l ∧ v7 = .int .i64 h ∧ wr = lay w (.inr de :: .inl (Obj.cells #[.int .i64 b0, .int .i64 b1] 3) :: .inr dd :: [.inl (Obj.cells #[.int .i64 a0, .int .i64 a1] 3), .inr d, .inr d2, .inr d1, .inl (Obj.cells #[.int .i64 0, .int .i64 0] 48), .inl (Obj.cells #[.int .i64 b0, .int .i64 b1] 48), .inl (Obj.cells #[.int .i64 a0, .int .i64 a1] 48)]) ∧ ((j = 0 ∧ q00 = l ∧ c00 = h) ∨ (j = 1 ∧ u1 = l ∧ v1 = h) ∨ (j = 2 ∧ u2 = l ∧ v2 = h))) (fun v50 _ _ _ => (3 - intOf v50).toNat)
      case atStart => exact ⟨_, _, _, noExt _, rfl, rfl, rfl, (bw_noExt _).symm, .inl ⟨rfl, rfl, rfl⟩⟩
      case round =>
        obtain ⟨j, l, h, de, rfl, rfl, rfl, rfl, hj⟩ := hrel
        rcases hj with ⟨rfl, rfl, rfl⟩ | ⟨rfl, rfl, rfl⟩ | ⟨rfl, rfl, rfl⟩
        · go_wp2_with (first | (go_at_call 66; refine (F00.out _).mono ?_; rintro e w' ⟨rfl, rfl⟩) | (go_at_call 67; refine (C00.out _).mono ?_; rintro e w' ⟨rfl, rfl⟩))
          exact ⟨⟨_, _, _, de, rfl, rfl, rfl, rfl, .inr (.inl ⟨rfl, rfl, rfl⟩)⟩, by simp only [intOf]; decide⟩
        · go_wp2_with (first | (go_at_call 66; refine (F01.out _).mono ?_; rintro e w' ⟨rfl, rfl⟩) | (go_at_call 67; refine (C01.out _).mono ?_; rintro e w' ⟨rfl, rfl⟩))
          exact ⟨⟨_, _, _, de, rfl, rfl, rfl, rfl, .inr (.inr ⟨rfl, rfl, rfl⟩)⟩, by simp only [intOf]; decide⟩
        · go_wp2_with fail
          obtain ⟨df, hdf⟩ := lay_fold w [.inr de, .inl (Obj.cells #[.int .i64 b0, .int .i64 b1] 3), .inr dd] [.inl (Obj.cells #[.int .i64 a0, .int .i64 a1] 3), .inr d, .inr d2, .inr d1, .inl (Obj.cells #[.int .i64 0, .int .i64 0] 48), .inl (Obj.cells #[.int .i64 b0, .int .i64 b1] 48), .inl (Obj.cells #[.int .i64 a0, .int .i64 a1] 48)]
          exact ⟨⟨_, _, _, df, rfl, rfl, rfl, hdf, .inr (.inl ⟨rfl, rfl, rfl⟩)⟩, by simp only [intOf]; decide⟩
    · clear HB HZ F00 F01 C00 C01 HF hu1 hu2 hv1 hv2 k1
      go_wp2_with fail
      go_loopw [50, 6, 7] (fun v50 v6 v7 wr => ∃ (j l h : Int) (de : Ext), v50 = .int .i64 j ∧ v6 = .int .i64 l ∧ v7 = .int .i64 h ∧ wr = lay w (.inr de :: .inl (Obj.cells #[.int .i64 b0, .int .i64 b1] 3) :: .inr dd :: [.inl (Obj.cells #[.int .i64 a0, .int .i64 a1] 3), .inr d, .inr d2, .inr d1, .inl (Obj.cells #[.int .i64 0, .int .i64 0] 48), .inl (Obj.cells #[.int .i64 b0, .int .i64 b1] 48), .inl (Obj.cells #[.int .i64 a0, .int .i64 a1] 48)]) ∧ ((j = 0 ∧ u2 = l ∧ v2 = h) ∨ (j = 1 ∧ u3 = l ∧ v3 = h) ∨ (j = 2 ∧ u4 = l ∧ v4 = h))) (fun v50 _ _ _ => (3 - intOf v50).toNat)
      case atStart => exact ⟨_, _, _, noExt _, rfl, rfl, rfl, (bw_noExt _).symm, .inl ⟨rfl, rfl, rfl⟩⟩
      case round =>
        obtain ⟨j, l, h, de, rfl, rfl, rfl, rfl, hj⟩ := hrel
        rcases hj with ⟨rfl, rfl, rfl⟩ | ⟨rfl, rfl, rfl⟩ | ⟨rfl, rfl, rfl⟩
        · go_wp2_with (first | (go_at_call 66; refine (F10.out _).mono ?_; rintro e w' ⟨rfl, rfl⟩) | (go_at_call 67; refine (C10.out _).mono ?_; rintro e w' ⟨rfl, rfl⟩))
          exact ⟨⟨_, _, _, de, rfl, rfl, rfl, rfl, .inr (.inl ⟨rfl, rfl, rfl⟩)⟩, by simp only [intOf]; decide⟩
        · go_wp2_with (first | (go_at_call 66; refine (F11.out _).mono ?_; rintro e w' ⟨rfl, rfl⟩) | (go_at_call 67; refine (C11.out _).mono ?_; rintro e w' ⟨rfl, rfl⟩))
          exact ⟨⟨_, _, _, de, rfl, rfl, rfl, rfl, .inr (.inr ⟨rfl, rfl, rfl⟩)⟩, by simp only [intOf]; decide⟩
        · go_wp2_with fail
          obtain ⟨df, hdf⟩ := lay_fold w [.inr de, .inl (Obj.cells #[.int .i64 b0, .int .i64 b1] 3), .inr dd] [.inl (Obj.cells #[.int .i64 a0, .int .i64 a1] 3), .inr d, .inr d2, .inr d1, .inl (Obj.cells #[.int .i64 0, .int .i64 0] 48), .inl (Obj.cells #[.int .i64 b0, .int .i64 b1] 48), .inl (Obj.cells #[.int .i64 a0, .int .i64 a1] 48)]
          exact ⟨⟨_, _, _, df, rfl, rfl, rfl, hdf, .inr (.inr ⟨rfl, rfl, rfl⟩)⟩, by simp only [intOf]; decide⟩
    · clear HB HZ F00 F01 C00 C01 F10 F11 C10 C11 hu1 hu2 hv1 hv2 hu3 hv3 hu4 hv4 k1 k2
      go_wp2_with (go_at_call 52; refine (HF.out _).mono ?_; rintro e w' ⟨rfl, d3, rfl⟩)
      exact bodyPost_ret (v := .tuple #[(.agg #[.int .i64 (r0), .int .i64 (r1)]), .int .i64 re]) (by simp [results, Try.results42, go_sem]) rfl ⟨rfl, lay_ex _ _⟩
end Go.Proofs.Ytakcfcekdngndaa

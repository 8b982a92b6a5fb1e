/- Contracts and plain laws, several texts in one: Cal; Cal2; Ptx; Pty -/
import Derived.Test.YtcbicpbbjbkiaaaGreatDoorProg
import Derived.WalkKit
import Derived.WalkSpells
import Derived.WalkLawsBesides
import Derived.Lib.Hide
import Derived.BigQuiet
import Derived.Deep.RegionWith
import Derived.Maps.Own
import Derived.Test.YtcbicpbbjbkiaaaGreatDoorZmAA
import Derived.Test.YtcbicpbbjbkiaaaGreatDoorZmAF
import Derived.Test.YtcbicpbbjbkiaaaGreatDoorZmAL
namespace Go.Proofs.YtcbicpbbjbkiaaaGreatDoor
set_option maxHeartbeats 1000000
open Go.RowKit

def leapB (y : Int) : Bool := decide (y % 4 = 0 ∧ (y % 100 ≠ 0 ∨ y % 400 = 0))
def dysI (y m : Int) : Int := if m = 2 then (if leapB y = true then 29 else 28) else if m = 4 ∨ m = 6 ∨ m = 9 ∨ m = 11 then 30 else 31
theorem dysI_bd (y m : Int) : 28 ≤ dysI y m ∧ dysI y m ≤ 31 := by unfold dysI; split <;> (try split) <;> omega
def befI (y : Int) : Int := 365 * (y - 1) + (y - 1) / 4 - (y - 1) / 100 + (y - 1) / 400
theorem befI_bd {y : Int} (h0 : 1 ≤ y) (h1 : y ≤ 9999) : 0 ≤ befI y ∧ befI y ≤ 4000000 := by unfold befI; omega
def monI (y : Int) : Nat → Int
 | 0 => 0
 | k + 1 => monI y k + dysI y ((k : Int) + 1)
theorem monI_bd (y : Int) : ∀ k : Nat, 0 ≤ monI y k ∧ monI y k ≤ 31 * (k : Int)
 | 0 => by simp [monI]
 | k + 1 => by
  have := monI_bd y k
  have := dysI_bd y ((k : Int) + 1)
  simp only [monI]; omega
def numI (y m d : Int) : Int := befI y + (d + monI y (m - 1).toNat) - 730119 - 1
def dateB (y m d : Int) : Bool := decide ((1 ≤ y ∧ y ≤ 9999) ∧ (1 ≤ m ∧ m ≤ 12) ∧ 1 ≤ d ∧ d ≤ dysI y m)
theorem dateB_iff {y m d : Int} : dateB y m d = true ↔ (1 ≤ y ∧ y ≤ 9999) ∧ (1 ≤ m ∧ m ≤ 12) ∧ 1 ≤ d ∧ d ≤ dysI y m := by simp [dateB]
theorem bef2000 : befI 2000 = 730119 := by decide
theorem tm_eq {y c : Int} (h : 0 ≤ y) : y.tmod c = y % c := Int.tmod_eq_emod_of_nonneg h
theorem td_eq {y c : Int} (h : 0 ≤ y) : y.tdiv c = y / c := Int.tdiv_eq_ediv_of_nonneg h
theorem leap_ways {y : Int} : (leapB y = true ∧ y % 4 = 0 ∧ (y % 100 != 0) = true ∧ (y % 100 == 0) = false) ∨ (leapB y = true ∧ y % 4 = 0 ∧ y % 100 = 0 ∧ y % 400 = 0) ∨
  (leapB y = false ∧ y % 4 = 0 ∧ y % 100 = 0 ∧ (y % 400 == 0) = false) ∨ (leapB y = false ∧ (y % 4 == 0) = false ∧ (y % 400 == 0) = false) := by
 unfold leapB
 simp only [decide_eq_true_eq, decide_eq_false_iff_not, beq_eq_false_iff_ne, bne_iff_ne, ne_eq]
 omega
theorem cal_Leap (y : Int) (w : World) (h0 : 0 ≤ y) :
  Calls Tryz.prog 259 #[.int .i64 y] w fun e w' => e = .returned (.bool (leapB y)) ∧ w' = w := by
 obtain ⟨A, eA⟩ : ∃ A, y % 4 = A := ⟨_, rfl⟩
 obtain ⟨B, eB⟩ : ∃ B, y % 100 = B := ⟨_, rfl⟩
 obtain ⟨C, eC⟩ : ∃ C, y % 400 = C := ⟨_, rfl⟩
 have e1 : y.tmod 4 = A := (tm_eq h0).trans eA
 have e2 : y.tmod 100 = B := (tm_eq h0).trans eB
 have e3 : y.tmod 400 = C := (tm_eq h0).trans eC
 have hw := leap_ways (y := y)
 rw [eA, eB, eC] at hw
 clear eA eB eC h0
 rcases hw with ⟨h, rfl, b2, b⟩ | ⟨h, rfl, rfl, rfl⟩ | ⟨h, rfl, rfl, c⟩ | ⟨h, a, c⟩
 all_goals
  rw [h]
  clear h
  go_enter Tryz.func259, Tryz.ntmps259
  go_wp2_with fail
  go_ret
  exact ⟨rfl, rfl⟩
def lenA : Array Value := #[.int .i64 31, .int .i64 28, .int .i64 31, .int .i64 30, .int .i64 31, .int .i64 30, .int .i64 31, .int .i64 31, .int .i64 30, .int .i64 31, .int .i64 30, .int .i64 31]
set_option maxRecDepth 100000
theorem ix_0 (w : World) : (Instr.index 304 (.agg lenA) (.int .i64 0)).run Tryz.prog w = .ok (.int .i64 31) w := by kernel_rfl
theorem ix_1 (w : World) : (Instr.index 304 (.agg lenA) (.int .i64 1)).run Tryz.prog w = .ok (.int .i64 28) w := by kernel_rfl
theorem ix_2 (w : World) : (Instr.index 304 (.agg lenA) (.int .i64 2)).run Tryz.prog w = .ok (.int .i64 31) w := by kernel_rfl
theorem ix_3 (w : World) : (Instr.index 304 (.agg lenA) (.int .i64 3)).run Tryz.prog w = .ok (.int .i64 30) w := by kernel_rfl
theorem ix_4 (w : World) : (Instr.index 304 (.agg lenA) (.int .i64 4)).run Tryz.prog w = .ok (.int .i64 31) w := by kernel_rfl
theorem ix_5 (w : World) : (Instr.index 304 (.agg lenA) (.int .i64 5)).run Tryz.prog w = .ok (.int .i64 30) w := by kernel_rfl
theorem ix_6 (w : World) : (Instr.index 304 (.agg lenA) (.int .i64 6)).run Tryz.prog w = .ok (.int .i64 31) w := by kernel_rfl
theorem ix_7 (w : World) : (Instr.index 304 (.agg lenA) (.int .i64 7)).run Tryz.prog w = .ok (.int .i64 31) w := by kernel_rfl
theorem ix_8 (w : World) : (Instr.index 304 (.agg lenA) (.int .i64 8)).run Tryz.prog w = .ok (.int .i64 30) w := by kernel_rfl
theorem ix_9 (w : World) : (Instr.index 304 (.agg lenA) (.int .i64 9)).run Tryz.prog w = .ok (.int .i64 31) w := by kernel_rfl
theorem ix_10 (w : World) : (Instr.index 304 (.agg lenA) (.int .i64 10)).run Tryz.prog w = .ok (.int .i64 30) w := by kernel_rfl
theorem ix_11 (w : World) : (Instr.index 304 (.agg lenA) (.int .i64 11)).run Tryz.prog w = .ok (.int .i64 31) w := by kernel_rfl
set_option maxRecDepth 512
theorem cal_lengths (w : World) :
  Calls Tryz.prog 260 #[] w fun e w' => e = .returned (.agg lenA) ∧ ∃ d, w' = bw w d := by
 refine lay_start ?_
 unfold lenA
 go_enter Tryz.func260, Tryz.ntmps260
 go_wp2
 exact bodyPost_ret (v := .agg #[.int .i64 31, .int .i64 28, .int .i64 31, .int .i64 30, .int .i64 31, .int .i64 30, .int .i64 31, .int .i64 31, .int .i64 30, .int .i64 31, .int .i64 30, .int .i64 31]) (by simp [results, Tryz.results260, go_sem]) rfl ⟨rfl, lay_ex _ _⟩
theorem mon12 {m : Int} (h0 : 1 ≤ m) (h1 : m ≤ 12) : m = 1 ∨ m = 2 ∨ m = 3 ∨ m = 4 ∨ m = 5 ∨ m = 6 ∨ m = 7 ∨ m = 8 ∨ m = 9 ∨ m = 10 ∨ m = 11 ∨ m = 12 := by omega
set_option maxRecDepth 100000 in
theorem cal_days (y m : Int) (w : World) (hy : 0 ≤ y) (h0 : 1 ≤ m) (h1 : m ≤ 12) :
  Calls Tryz.prog 207 #[.int .i64 y, .int .i64 m] w fun e w' => e = .returned (.int .i64 (dysI y m)) ∧ ∃ d, w' = bw w d := by
 have HL := Lib.hid (fun W => cal_Leap y W hy)
 unfold dysI
 generalize leapB y = b at *
 clear hy
 rcases mon12 h0 h1 with rfl | rfl | rfl | rfl | rfl | rfl | rfl | rfl | rfl | rfl | rfl | rfl
 all_goals cases b
 all_goals
  clear h0 h1
  have ix0 := ix_0
  have ix1 := ix_1
  have ix2 := ix_2
  have ix3 := ix_3
  have ix4 := ix_4
  have ix5 := ix_5
  have ix6 := ix_6
  have ix7 := ix_7
  have ix8 := ix_8
  have ix9 := ix_9
  have ixA := ix_10
  have ixB := ix_11
  refine lay_start ?_
  go_enter Tryz.func207, Tryz.ntmps207
  go_wp2_with (first | (go_at_call 259; refine (HL.out _).mono ?_; rintro e w' ⟨rfl, rfl⟩) | (go_at_call 260; refine (cal_lengths _).mono ?_; rintro e w' ⟨rfl, d, rfl⟩))
  go_ret
  first | exact ⟨rfl, lay_ex _ _⟩ | exact ⟨rfl, noExt _, (bw_noExt _).symm⟩ | exact ⟨rfl, _, rfl⟩
theorem cal_before (y : Int) (w : World) (h0 : 1 ≤ y) (h1 : y ≤ 9999) :
  Calls Tryz.prog 208 #[.int .i64 y] w fun e w' => e = .returned (.int .i64 (befI y)) ∧ w' = w := by
 have e1 := td_eq (y := y - 1) (c := 4) (by omega)
 have e2 := td_eq (y := y - 1) (c := 100) (by omega)
 have e3 := td_eq (y := y - 1) (c := 400) (by omega)
 unfold befI
 rw [← e1, ← e2, ← e3]
 have b1 : 0 ≤ (y - 1).tdiv 4 ∧ (y - 1).tdiv 4 ≤ 10000 := by omega
 have b2 : 0 ≤ (y - 1).tdiv 100 ∧ (y - 1).tdiv 100 ≤ 10000 := by omega
 have b3 : 0 ≤ (y - 1).tdiv 400 ∧ (y - 1).tdiv 400 ≤ 10000 := by omega
 clear e1 e2 e3
 go_enter Tryz.func208, Tryz.ntmps208
 go_wp2_with fail
 go_ret
 exact ⟨ret_int (by omega), rfl⟩
set_option maxHeartbeats 1000000
open Go.RowKit

theorem cal_dayOfYear (y m d : Int) (w : World) (hy : 0 ≤ y) (h0 : 1 ≤ m) (h1 : m ≤ 12) (d0 : 1 ≤ d) (d1 : d ≤ 31) :
  Calls Tryz.prog 209 #[.agg #[.int .i64 y, .int .i64 m, .int .i64 d]] w fun e w' => e = .returned (.int .i64 (d + monI y (m - 1).toNat)) ∧ ∃ d, w' = bw w d := by
 have HD := Lib.hid (fun j W (a : 1 ≤ j) (b : j ≤ 12) => cal_days y j W hy a b)
 have HB := Lib.hid (fun k => monI_bd y k)
 have HS : Hid (∀ k : Nat, d + monI y k + dysI y ((k : Int) + 1) = d + monI y (k + 1)) := Lib.hid (fun k => by simp only [monI]; omega)
 have HY := Lib.hid (fun j => dysI_bd y j)
 refine lay_start ?_
 go_enter Tryz.func209, Tryz.ntmps209
 go_wp2_with fail
 go_loopw [3, 4] (fun v3 v4 wr => ∃ (k : Nat) (e : Ext), (k : Int) + 1 ≤ m ∧ v3 = .int .i64 (d + monI y k) ∧ v4 = .int .i64 ((k : Int) + 1) ∧ wr = lay w [.inr e, .inl (.cells #[.int .i64 y, .int .i64 m, .int .i64 d] 83 (0, 0))]) (fun _ v4 _ => m.toNat - (intOf v4).toNat)
 case atStart => exact ⟨0, noExt _, by omega, by simp [monI], rfl, (bw_noExt _).symm⟩
 case round =>
  obtain ⟨k, e, hk, rfl, rfl, rfl⟩ := hrel
  by_cases hlt : (k : Int) + 1 < m
  ·have b1 := HB.out k
   have b2 := HY.out ((k : Int) + 1)
   have b3 := HS.out k
   have HDk := Lib.hid (fun W => HD.out ((k : Int) + 1) W (by omega) (by omega))
   clear HD HB HS HY
   generalize monI y k = M at *
   generalize dysI y ((k : Int) + 1) = D at *
   obtain ⟨b11, b12⟩ := b1
   obtain ⟨b21, b22⟩ := b2
   go_wp2_with (go_at_call 207; refine (HDk.out _).mono ?_; rintro e w' ⟨rfl, e2, rfl⟩)
   go_roundw
   case rel => exact ⟨k + 1, _, by omega, by rw [← b3], by go_num, Classical.choose_spec (lay_fold w [_, _] _)⟩
   case measure => simp [intOf]; omega
  ·have HM : Hid ((m - 1).toNat = k) := Lib.hid (by omega)
   go_wp2_with fail
   go_ret
   exact ⟨ret_int (by have := HM.out; rw [show m.toNat - 1 = k by omega]), lay_ex _ _⟩
theorem cal_number (y m d : Int) (w : World) (h : dateB y m d = true) :
  Calls Tryz.prog 126 #[.agg #[.int .i64 y, .int .i64 m, .int .i64 d]] w fun e w' => e = .returned (.int .i64 (numI y m d)) ∧ ∃ d, w' = bw w d := by
 obtain ⟨⟨a, b⟩, ⟨c, e⟩, f, g⟩ := dateB_iff.1 h
 have k1 := dysI_bd y m
 have H1 := Lib.hid (fun W => cal_before y W a b)
 have H2 := Lib.hid (fun W => cal_before 2000 W (by decide) (by decide))
 rw [bef2000] at H2
 have H3 := Lib.hid (fun W => cal_dayOfYear y m d W (by omega) c e f (by omega))
 have b1 := befI_bd a b
 have b2 := monI_bd y (m - 1).toNat
 unfold numI
 generalize befI y = B at *
 generalize monI y (m - 1).toNat = M at *
 have b3 : 0 ≤ M ∧ M ≤ 400 := by omega
 obtain ⟨b11, b12⟩ := b1
 obtain ⟨b31, b32⟩ := b3
 have f2 : d ≤ 31 := by omega
 clear b2 g h k1
 refine lay_start ?_
 go_enter Tryz.func126, Tryz.ntmps126
 go_wp2_with fail
 refine region_bw (by kernel_rfl) (by kernel_rfl) ?_
 repeat (go_big_quiet_step ((first | (go_at_call 208; first | ((with_reducible refine bqs (H1.out _) ?_); exact ⟨_, rfl⟩) | ((with_reducible refine bqs (H2.out _) ?_); exact ⟨_, rfl⟩)) | (go_at_call 209; exact bq (H3.out _) (fun d => ⟨d, rfl⟩)) | (go_at_call 209; exact bq (H3.out _) (fun d => lay_join _ _ _ d)))))
 refine wpQuiet_nil ?_
 rintro w' ⟨d, rfl⟩
 rw [lay_bw]
 go_wp2_with fail
 go_ret
 exact ⟨ret_int (by omega), lay_ex _ _⟩
theorem cal_right (y m : Int) (w : World) :
  Calls Tryz.prog 206 #[.int .i64 y, .int .i64 m] w fun e w' => e = .returned (.bool (decide ((1 ≤ y ∧ y ≤ 9999) ∧ 1 ≤ m ∧ m ≤ 12))) ∧ w' = w := by
 go_enter Tryz.func206, Tryz.ntmps206
 go_wp2_with fail
 all_goals go_ret
 all_goals exact ⟨ret_bool (by first | (simp [*]; done) | (rw [Bool.eq_iff_iff]; simp; omega)), rfl⟩
theorem cal_Valid (y m d : Int) (w : World) :
  Calls Tryz.prog 125 #[.agg #[.int .i64 y, .int .i64 m, .int .i64 d]] w fun e w' => e = .returned (.bool (dateB y m d)) ∧ ∃ d, w' = bw w d := by
 have HR := Lib.hid (fun W => cal_right y m W)
 by_cases h : (1 ≤ y ∧ y ≤ 9999) ∧ 1 ≤ m ∧ m ≤ 12
 ·have HD := Lib.hid (fun W => cal_days y m W (by omega) h.2.1 h.2.2)
  rw [decide_eq_true h] at HR
  have e : dateB y m d = (decide (1 ≤ d) && decide (d ≤ dysI y m)) := by rw [Bool.eq_iff_iff, dateB_iff]; simp only [Bool.and_eq_true, decide_eq_true_eq]; omega
  rw [e]
  clear h e
  generalize dysI y m = D at *
  by_cases h1 : 1 ≤ d
  ·have t1 : decide (1 ≤ d) = true := decide_eq_true h1
   clear h1
   rw [t1, Bool.true_and]
   refine lay_start ?_
   go_enter Tryz.func125, Tryz.ntmps125
   go_wp2_with fail
   refine region_bw (by kernel_rfl) (by kernel_rfl) ?_
   repeat (go_big_quiet_step ((first | (go_at_call 206; (with_reducible refine bqs (HR.out _) ?_); exact ⟨_, rfl⟩) | (go_at_call 207; exact bq (HD.out _) (fun d => ⟨d, rfl⟩)) | (go_at_call 207; exact bq (HD.out _) (fun d => lay_join _ _ _ d)))))
   refine wpQuiet_nil ?_
   rintro w' ⟨d, rfl⟩
   rw [lay_bw]
   go_wp2_with fail
   go_ret
   exact ⟨rfl, lay_ex _ _⟩
  ·have t1 : decide (1 ≤ d) = false := decide_eq_false h1
   clear h1
   rw [t1, Bool.false_and]
   refine lay_start ?_
   go_enter Tryz.func125, Tryz.ntmps125
   go_wp2_with fail
   refine region_bw (by kernel_rfl) (by kernel_rfl) ?_
   repeat (go_big_quiet_step ((first | (go_at_call 206; (with_reducible refine bqs (HR.out _) ?_); exact ⟨_, rfl⟩))))
   refine wpQuiet_nil ?_
   rintro w' ⟨d, rfl⟩
   rw [lay_bw]
   go_wp2_with fail
   go_ret
   exact ⟨rfl, lay_ex _ _⟩
 ·rw [decide_eq_false h] at HR
  have e : dateB y m d = false := by
   cases hd : dateB y m d
   ·rfl
   ·exact absurd ⟨(dateB_iff.1 hd).1, (dateB_iff.1 hd).2.1⟩ h
  rw [e]
  clear h e
  refine lay_start ?_
  go_enter Tryz.func125, Tryz.ntmps125
  go_wp2_with fail
  refine region_bw (by kernel_rfl) (by kernel_rfl) ?_
  repeat (go_big_quiet_step ((first | (go_at_call 206; (with_reducible refine bqs (HR.out _) ?_); exact ⟨_, rfl⟩))))
  refine wpQuiet_nil ?_
  rintro w' ⟨d, rfl⟩
  rw [lay_bw]
  go_wp2_with fail
  go_ret
  exact ⟨rfl, lay_ex _ _⟩
theorem cal_Number (y m d : Int) (w : World) :
  Calls Tryz.prog 61 #[.agg #[.int .i64 y, .int .i64 m, .int .i64 d]] w fun e w' => e = .returned (.tuple #[.int .i64 (if dateB y m d = true then numI y m d else 0), .int .i64 (if dateB y m d = true then 0 else 1)]) ∧ ∃ d, w' = bw w d := by
 have HV := Lib.hid (fun W => cal_Valid y m d W)
 cases h : dateB y m d
 ·rw [h] at HV
  rw [if_neg Bool.false_ne_true, if_neg Bool.false_ne_true]
  refine lay_start ?_
  go_enter Tryz.func61, Tryz.ntmps61
  go_wp2_with (go_at_call 125; refine (HV.out _).mono ?_; rintro e w' ⟨rfl, e1, rfl⟩)
  go_ret2
  exact ⟨rfl, lay_ex _ _⟩
 ·have HN := Lib.hid (fun W => cal_number y m d W h)
  rw [h] at HV
  rw [if_pos rfl, if_pos rfl]
  generalize numI y m d = N at *
  clear h
  refine lay_start ?_
  go_enter Tryz.func61, Tryz.ntmps61
  go_wp2_with (first | (go_at_call 125; refine (HV.out _).mono ?_; rintro e w' ⟨rfl, e1, rfl⟩) | (go_at_call 126; refine (HN.out _).mono ?_; rintro e w' ⟨rfl, e2, rfl⟩))
  go_ret2
  exact ⟨rfl, lay_ex _ _⟩
set_option maxHeartbeats 1000000
open Go.RowKit Go.Shelf

theorem dec_len5 {n : Nat} (h : n < 100000) : (Lib.decDigits n).length ≤ 5 := by
 by_cases h0 : n < 10
 ·rw [dec_small h0]; simp
 ·rw [dec_big h0, List.length_append, List.length_singleton]
  by_cases h1 : n / 10 < 10
  ·rw [dec_small h1]; simp
  ·rw [dec_big h1, List.length_append, List.length_singleton]
   have := dec_len_le (n := n / 10 / 10) (by omega)
   omega
theorem cal_padded (n k : Nat) (hn : n < 100000) (hk : k ≤ 10) (w : World) (h : TpW w) : Calls Tryz.prog 228 #[.int .i64 (n : Int), .int .i64 (k : Int)] w fun e w' => e = .returned (.string (strB (padL n k))) ∧ ∃ d, w' = Go.Proofs.YtcbicpbbjbkiaaaGreatDoor.bw w d := by
 have HI := Lib.hid (fun L => tp_Itoa n (by omega) (lay w L) (h.lay L))
 have hl := dec_len5 hn
 have hsz := strB_size (Lib.decDigits n)
 obtain ⟨z, hz⟩ : ∃ z : Nat, k - (Lib.decDigits n).length = z := ⟨_, rfl⟩
 have hr : strB (padL n k) = strB (List.replicate z 48) ++ strB (Lib.decDigits n) := by rw [strB_app]; unfold padL; rw [hz]
 have HR := Lib.hid (fun W => tp_Repeat z (by omega) W)
 have hs2 : (strB (List.replicate z 48)).size = z := by rw [strB_size, List.length_replicate]
 have e1 : IntKind.i64.wrap ((k : Int) - ((strB (Lib.decDigits n)).size : Int)) = (k : Int) - ((strB (Lib.decDigits n)).size : Int) := IntWalk.i64_in _ (by omega)
 have e2 : mx 0 ((k : Int) - ((strB (Lib.decDigits n)).size : Int)) = (z : Int) := by rw [mx_eq]; omega
 have e3 : ¬ 9223372036854775807 < (strB (List.replicate z 48)).size + (strB (Lib.decDigits n)).size := by omega
 rw [hr]
 clear hr hs2 hsz hl hz h
 generalize strB (Lib.decDigits n) = S at *
 generalize strB (List.replicate z 48) = Z at *
 refine lay_start ?_
 go_enter Tryz.func228, Tryz.ntmps228
 go_wp2_with (first | (go_at_call 81; refine (HI.out _).mono ?_; rintro e w' ⟨rfl, d1, rfl⟩; rw [lay_bw]) | (go_at_call 200; refine (HR.out _).mono ?_; rintro e w' ⟨rfl, d2, rfl⟩; rw [lay_bw]))
 exact bodyPost_ret (v := .string (Z ++ S)) (by simp [results, Tryz.results228, go_sem]) rfl ⟨rfl, lay_ex _ _⟩
def datL (y m d : Nat) : List UInt8 := padL y 4 ++ [45] ++ padL m 2 ++ [45] ++ padL d 2
theorem padL_le {n k : Nat} (hn : n < 100000) (hk : k ≤ 5) : (padL n k).length ≤ 5 := by
 have := dec_len5 hn
 unfold padL
 rw [List.length_append, List.length_replicate]
 omega
theorem cal_text (y m d : Nat) (hy : y < 10000) (hm : m < 100) (hd : d < 100) (w : World) (h : TpW w) :
  Calls Tryz.prog 153 #[.agg #[.int .i64 (y : Int), .int .i64 (m : Int), .int .i64 (d : Int)]] w fun e w' => e = .returned (.string (strB (datL y m d))) ∧ ∃ d, w' = Go.Proofs.YtcbicpbbjbkiaaaGreatDoor.bw w d := by
 have HT := Lib.hid h
 have HY := Lib.hid (fun W => cal_padded y 4 (by omega) (by decide) W)
 have HM := Lib.hid (fun W => cal_padded m 2 (by omega) (by decide) W)
 have HD := Lib.hid (fun W => cal_padded d 2 (by omega) (by decide) W)
 rw [show ((4 : Nat) : Int) = 4 from rfl] at HY
 rw [show ((2 : Nat) : Int) = 2 from rfl] at HM HD
 have hr : strB (datL y m d) = strB (padL y 4) ++ (⟨#[45]⟩ : ByteArray) ++ strB (padL m 2) ++ (⟨#[45]⟩ : ByteArray) ++ strB (padL d 2) := by
  rw [show (⟨#[45]⟩ : ByteArray) = strB [45] from rfl]
  simp only [strB_app]
  rfl
 have z1 := strB_size (padL y 4)
 have z2 := strB_size (padL m 2)
 have z3 := strB_size (padL d 2)
 have l1 := padL_le (n := y) (k := 4) (by omega) (by decide)
 have l2 := padL_le (n := m) (k := 2) (by omega) (by decide)
 have l3 := padL_le (n := d) (k := 2) (by omega) (by decide)
 rw [hr]
 clear hr h
 generalize strB (padL y 4) = S1 at *
 generalize strB (padL m 2) = S2 at *
 generalize strB (padL d 2) = S3 at *
 have s1 : ¬ 9223372036854775807 < S1.size + (⟨#[45]⟩ : ByteArray).size := by show ¬ _ < S1.size + 1; omega
 have s2 : ¬ 9223372036854775807 < (S1 ++ (⟨#[45]⟩ : ByteArray)).size + S2.size := by rw [b_cat_size]; show ¬ _ < S1.size + 1 + S2.size; omega
 have s3 : ¬ 9223372036854775807 < (S1 ++ (⟨#[45]⟩ : ByteArray) ++ S2).size + (⟨#[45]⟩ : ByteArray).size := by rw [b_cat_size, b_cat_size]; show ¬ _ < S1.size + 1 + S2.size + 1; omega
 have s4 : ¬ 9223372036854775807 < (S1 ++ (⟨#[45]⟩ : ByteArray) ++ S2 ++ (⟨#[45]⟩ : ByteArray)).size + S3.size := by rw [b_cat_size, b_cat_size, b_cat_size]; show ¬ _ < S1.size + 1 + S2.size + 1 + S3.size; omega
 clear z1 z2 z3 l1 l2 l3
 refine lay_start ?_
 go_enter Tryz.func153, Tryz.ntmps153
 go_wp2_with fail
 refine region_bw (by kernel_rfl) (by kernel_rfl) ?_
 repeat (go_big_quiet_step ((first | (go_at_call 228; (with_reducible refine bq (HY.out _ ?_) ?_); exact HT.out.lay _; exact (fun d => lay_join _ _ _ d)) | (go_at_call 228; (with_reducible refine bq (HM.out _ ?_) ?_); exact HT.out.lay _; exact (fun d => lay_join _ _ _ d)) | (go_at_call 228; (with_reducible refine bq (HD.out _ ?_) ?_); exact HT.out.lay _; exact (fun d => lay_join _ _ _ d)))))
 refine wpQuiet_nil ?_
 rintro w' ⟨d, rfl⟩
 rw [lay_bw]
 go_wp2_with fail
 exact bodyPost_ret (v := .string (S1 ++ (⟨#[45]⟩ : ByteArray) ++ S2 ++ (⟨#[45]⟩ : ByteArray) ++ S3)) (by simp [results, Tryz.results153, go_sem]) rfl ⟨rfl, lay_ex _ _⟩
theorem cal_Text (y m d : Nat) (hy : dateB y m d = true) (w : World) (h : TpW w) :
  Calls Tryz.prog 78 #[.agg #[.int .i64 (y : Int), .int .i64 (m : Int), .int .i64 (d : Int)]] w fun e w' => e = .returned (.tuple #[.string (strB (datL y m d)), .int .i64 0]) ∧ ∃ d, w' = Go.Proofs.YtcbicpbbjbkiaaaGreatDoor.bw w d := by
 have HV := Lib.hid (fun W => cal_Valid y m d W)
 obtain ⟨⟨a1, a2⟩, ⟨a3, a4⟩, a5, a6⟩ := dateB_iff.1 hy
 have HT := Lib.hid (fun L => cal_text y m d (by omega) (by omega) (by have := (dysI_bd (y : Int) (m : Int)).2; omega) (lay w L) (h.lay L))
 rw [hy] at HV
 clear hy a1 a2 a3 a4 a5 a6 h
 generalize strB (datL y m d) = S at *
 refine lay_start ?_
 go_enter Tryz.func78, Tryz.ntmps78
 go_wp2_with (first | (go_at_call 125; refine (HV.out _).mono ?_; rintro e w' ⟨rfl, e1, rfl⟩; rw [lay_bw]) | (go_at_call 153; refine (HT.out _).mono ?_; rintro e w' ⟨rfl, e2, rfl⟩; rw [lay_bw]))
 exact bodyPost_ret (v := .tuple #[.string S, .int .i64 0]) (by simp [results, Tryz.results78, go_sem]) rfl ⟨rfl, lay_ex _ _⟩
set_option maxHeartbeats 2000000
open Go.RowKit Go.Shelf

theorem BdI.le {B B' b : Nat} {l : List UInt8} {W : World} (h : BdI B b l W) (hB : B' ≤ B) : BdI B' b l W := by
 have key : ∀ p, Lib.BuilderAt 163 5 B b p (Lib.byteCells l) W → Lib.BuilderAt 163 5 B' b p (Lib.byteCells l) W := by
  rintro p ⟨h0, v, h1, h2, h3⟩
  refine ⟨Nat.le_trans hB h0, v, h1, ⟨h2.1, h2.2.imp id ?_⟩, h3⟩
  rintro ⟨g, cap, cur, e, k1, k2⟩
  exact ⟨g, cap, cur, e, Nat.le_trans hB k1, k2⟩
 rcases h with h | h
 ·exact .inl (key _ h)
 ·exact .inr (key _ h)
theorem bdi_StL (w : World) (L : List (Obj ⊕ Ext)) (d : Ext) (b : Nat) (l : List UInt8) (h : BdI (lay w L).heap.size b l (lay w (.inr d :: L))) :
  Calls Tryz.prog 83 #[.pointer (some ⟨b, 0, none⟩)] (lay w (.inr d :: L)) fun e w' => e = .returned (.string (strB l)) ∧ ∃ d, w' = bw (lay w L) d := bdi_St (lay w L) b l [.inr d] h
theorem bdi_WSL (w : World) (x : Obj ⊕ Ext) (L : List (Obj ⊕ Ext)) (b : Nat) (l : List UInt8) (s : ByteArray) (h : BdI (lay w L).heap.size b l (lay w (x :: L))) (hl : l.length + s.size ≤ 1000000) :
  Calls Tryz.prog 79 #[.pointer (some ⟨b, 0, none⟩), .string s] (lay w (x :: L)) fun e w' => e = .returned (.tuple #[.int .i64 s.size, .nilIface]) ∧ ∃ d, w' = bw (lay w L) d ∧ BdI (lay w L).heap.size b (l ++ s.data.toList) (bw (lay w L) d) := by
 have h2 := bdi_WS (lay w L) b l s [x] (by cases x <;> exact h) hl
 cases x <;> exact h2
theorem bdi_newH (w : World) (L : List (Obj ⊕ Ext)) : BdI (lay w L).heap.size (posn w (shp L)) [] (lay w (.inl (.cells #[.pointer none, .slice none 0 0] 163 (0, 0)) :: L)) := by
 have h : BdI (lay w L).heap.size (lay w L).heap.size [] (lay w (.inl (.cells #[.pointer none, .slice none 0 0] 163 (0, 0)) :: L)) := Lib.fresh_isBuilder 163 5 (lay w L)
 rw [← lay_size w L]
 exact h
theorem page_Valid0 (y m d : Int) (hd : dateB y m d = true) (hn : -300000 ≤ numI y m d ∧ numI y m d ≤ 300000) (w : World) :
  Calls Tryz.prog 57 #[.agg #[.int .i64 y, .int .i64 m, .int .i64 d, .slice none 0 0]] w fun e w' => e = .returned (.bool true) ∧ ∃ d, w' = bw w d := by
 have HN := Lib.hid (fun W => cal_Number y m d W)
 rw [if_pos hd, if_pos hd] at HN
 generalize numI y m d = X at *
 obtain ⟨h1, h2⟩ := hn
 have h3 : ¬ (X < -300000) := by omega
 have h4 : ¬ (300000 < X) := by omega
 clear hd
 have hmm := @run_makeMap Tryz.prog
 refine lay_start ?_
 go_enter Tryz.func57, Tryz.ntmps57
 go_wp2_with (go_at_call 61; refine (HN.out _).mono ?_; rintro e w' ⟨rfl, d1, rfl⟩; rw [lay_bw])
 refine wp_loop_rounds 1 ?_
 rw [rounds_succ]
 go_wp2_with fail
 exact bodyPost_ret (v := .bool true) (by simp [results, Tryz.results57, go_sem]) rfl ⟨rfl, lay_ex _ _⟩
def pagL (y m d : Nat) : List UInt8 := [112, 97, 103, 101, 32] ++ datL y m d ++ [10]
set_option maxRecDepth 100000 in
theorem page_Text0 (y m d : Nat) (hd : dateB y m d = true) (hn : -300000 ≤ numI y m d ∧ numI y m d ≤ 300000) (w : World) (h : TpW w) :
  Calls Tryz.prog 20 #[.agg #[.int .i64 (y : Int), .int .i64 (m : Int), .int .i64 (d : Int), .slice none 0 0]] w fun e w' => e = .returned (.tuple #[.string (strB (pagL y m d)), .int .i64 0]) ∧ ∃ d, w' = bw w d := by
 have HV := Lib.hid (fun W => page_Valid0 y m d hd hn W)
 have HT := Lib.hid (fun L => cal_Text y m d hd (lay w L) (h.lay L))
 obtain ⟨⟨a1, a2⟩, ⟨a3, a4⟩, a5, a6⟩ := dateB_iff.1 hd
 have hl : (datL y m d).length ≤ 17 := by
  have h1 := padL_le (n := y) (k := 4) (by omega) (by decide)
  have h2 := padL_le (n := m) (k := 2) (by omega) (by decide)
  have h3 := padL_le (n := d) (k := 2) (by have := (dysI_bd (y : Int) (m : Int)).2; omega) (by decide)
  unfold datL
  simp only [List.length_append, List.length_cons, List.length_nil]
  omega
 have hz := strB_size (datL y m d)
 have hli := strB_list (datL y m d)
 unfold pagL
 clear hd hn a1 a2 a3 a4 a5 a6 h
 generalize strB (datL y m d) = S at *
 generalize datL y m d = D at *
 have s1 : ¬ 9223372036854775807 < (⟨#[112, 97, 103, 101, 32]⟩ : ByteArray).size + S.size := by show ¬ _ < 5 + S.size; omega
 have s2 : ¬ 9223372036854775807 < ((⟨#[112, 97, 103, 101, 32]⟩ : ByteArray) ++ S).size + (⟨#[10]⟩ : ByteArray).size := by rw [b_cat_size]; show ¬ _ < 5 + S.size + 1; omega
 obtain ⟨T, hT⟩ : ∃ T, (⟨#[112, 97, 103, 101, 32]⟩ : ByteArray) ++ S ++ (⟨#[10]⟩ : ByteArray) = T := ⟨_, rfl⟩
 have hTl : [] ++ T.data.toList = [112, 97, 103, 101, 32] ++ D ++ [10] := by rw [← hT, b_cat, b_cat, hli]; simp
 have hTs : T.size ≤ 30 := by rw [← hT, b_cat_size, b_cat_size]; show 5 + S.size + 1 ≤ 30; omega
 refine lay_start ?_
 go_enter Tryz.func20, Tryz.ntmps20
 go_wp2_with (first | (go_at_call 57; refine (HV.out _).mono ?_; rintro e w' ⟨rfl, d1, rfl⟩; rw [lay_bw]) | (go_at_call 78; refine (HT.out _).mono ?_; rintro e w' ⟨rfl, d2, rfl⟩; rw [lay_bw]))
 have hB0 := bdi_newH w [.inr d2, .inr d1, .inl (.cells #[.int .i64 (y : Int), .int .i64 (m : Int), .int .i64 (d : Int), .slice none 0 0] 86 (0, 0))]
 refine (bdi_WSL w _ _ _ [] T hB0 (by show 0 + T.size ≤ 1000000; omega)).mono ?_
 rintro e w' ⟨rfl, d3, rfl, hB3⟩
 rw [hTl] at hB3
 rw [lay_bw] at hB3 ⊢
 clear hTl hli
 go_wp2_with fail
 refine wp_loop_rounds 1 ?_
 rw [rounds_succ]
 go_wp2_with fail
 refine (bdi_StL w _ _ _ _ hB3).mono ?_
 rintro e w' ⟨rfl, d4, rfl⟩
 rw [lay_bw]
 go_wp2_with fail
 exact bodyPost_ret (v := .tuple #[.string (strB ([112, 97, 103, 101, 32] ++ D ++ [10])), .int .i64 0]) (by simp [results, Tryz.results20, go_sem]) rfl ⟨rfl, lay_ex _ _⟩
end Go.Proofs.YtcbicpbbjbkiaaaGreatDoor

/- Contracts and plain laws, several texts in one: Cal2; Pg3; Sta2; Pv; Ap1; StrR; ApL; ApO -/
import Derived.Test.YtmmfkleplbofgaaGreatDoorProg
import Derived.WalkKit
import Derived.WalkSpells
import Derived.WalkLawsBesides
import Derived.Lib.Hide
import Derived.BigQuiet
import Derived.Deep.RegionWith
import Derived.Lib.ItoaNum
import Derived.Deep.AppendLies
import Derived.Test.YtmmfkleplbofgaaGreatDoorBAA
import Derived.Test.YtmmfkleplbofgaaGreatDoorBAB
import Derived.Test.YtmmfkleplbofgaaGreatDoorBAC
import Derived.Test.YtmmfkleplbofgaaGreatDoorBAG
import Derived.Test.YtmmfkleplbofgaaGreatDoorBAH
/- Dates: valid ones, their numbers. -/
namespace Go.Proofs.YtmmfkleplbofgaaGreatDoor
open Go.RowKit

set_option maxHeartbeats 1000000 in
theorem cal_dayOfYear (y m d : Int) (w : World) (hy : 0 ≤ y) (h0 : 1 ≤ m) (h1 : m ≤ 12) (d0 : 1 ≤ d) (d1 : d ≤ 31) :
    Calls Tryz.prog 74 #[.agg #[.int .i64 y, .int .i64 m, .int .i64 d]] w fun e w' => e = .returned (.int .i64 (d + monI y (m - 1).toNat)) ∧ ∃ d, w' = bw w d := by
  have HD := Lib.hid (fun j W (a : 1 ≤ j) (b : j ≤ 12) => cal_days y j W hy a b)
  have HB := Lib.hid (fun k => monI_bd y k)
  have HS : Hid (∀ k : Nat, d + monI y k + dysI y ((k : Int) + 1) = d + monI y (k + 1)) := Lib.hid (fun k => by simp only [monI]; omega)
  have HY := Lib.hid (fun j => dysI_bd y j)
  refine lay_start ?_
  go_enter Tryz.func74, Tryz.ntmps74
  go_wp2_with fail
  go_loopw [3, 4] (fun v3 v4 wr => ∃ (k : Nat) (e : Ext), (k : Int) + 1 ≤ m ∧ v3 = .int .i64 (d + monI y k) ∧ v4 = .int .i64 ((k : Int) + 1) ∧ wr = lay w [.inr e, .inl (.cells #[.int .i64 y, .int .i64 m, .int .i64 d] 23 (0, 0))]) (fun _ v4 _ => m.toNat - (intOf v4).toNat)
  case atStart => exact ⟨0, noExt _, by omega, by simp [monI], rfl, (bw_noExt _).symm⟩
  case round =>
    obtain ⟨k, e, hk, rfl, rfl, rfl⟩ := hrel
    by_cases hlt : (k : Int) + 1 < m
    · have b1 := HB.out k
      have b2 := HY.out ((k : Int) + 1)
      have b3 := HS.out k
      have HDk := Lib.hid (fun W => HD.out ((k : Int) + 1) W (by omega) (by omega))
      clear HD HB HS HY
      generalize monI y k = M at *
      generalize dysI y ((k : Int) + 1) = D at *
      obtain ⟨b11, b12⟩ := b1
      obtain ⟨b21, b22⟩ := b2
      go_wp2_with (go_at_call 72; refine (HDk.out _).mono ?_; rintro e w' ⟨rfl, e2, rfl⟩)
      go_roundw
      case rel => exact ⟨k + 1, _, by omega, by rw [← b3], by go_num, Classical.choose_spec (lay_fold w [_, _] _)⟩
      case measure => simp [intOf]; omega
    · have HM : Hid ((m - 1).toNat = k) := Lib.hid (by omega)
      go_wp2_with fail
      go_ret
      exact ⟨ret_int (by have := HM.out; rw [show m.toNat - 1 = k by omega]), lay_ex _ _⟩
set_option maxHeartbeats 1000000 in
theorem ref09_DayOfYear (y m d : Int) (w : World) (hy : 0 ≤ y) (h0 : 1 ≤ m) (h1 : m ≤ 12) (d0 : 1 ≤ d) (d1 : d ≤ 31) :
    Calls Tryz.prog 40 #[.agg #[.int .i64 y, .int .i64 m, .int .i64 d]] w fun e w' => e = .returned (.int .i64 (d + monI y (m - 1).toNat)) ∧ ∃ d, w' = bw w d := by
  have HD := Lib.hid (fun j W (a : 1 ≤ j) (b : j ≤ 12) => ref09_Days y j W hy a b)
  have HB := Lib.hid (fun k => monI_bd y k)
  have HS : Hid (∀ k : Nat, d + monI y k + dysI y ((k : Int) + 1) = d + monI y (k + 1)) := Lib.hid (fun k => by simp only [monI]; omega)
  have HY := Lib.hid (fun j => dysI_bd y j)
  refine lay_start ?_
  go_enter Tryz.func40, Tryz.ntmps40
  go_wp2_with fail
  go_loopw [3, 4] (fun v3 v4 wr => ∃ (k : Nat) (e : Ext), (k : Int) + 1 ≤ m ∧ v3 = .int .i64 (d + monI y k) ∧ v4 = .int .i64 ((k : Int) + 1) ∧ wr = lay w [.inr e, .inl (.cells #[.int .i64 y, .int .i64 m, .int .i64 d] 23 (0, 0))]) (fun _ v4 _ => m.toNat - (intOf v4).toNat)
  case atStart => exact ⟨0, noExt _, by omega, by simp [monI], rfl, (bw_noExt _).symm⟩
  case round =>
    obtain ⟨k, e, hk, rfl, rfl, rfl⟩ := hrel
    by_cases hlt : (k : Int) + 1 < m
    · have b1 := HB.out k
      have b2 := HY.out ((k : Int) + 1)
      have b3 := HS.out k
      have HDk := Lib.hid (fun W => HD.out ((k : Int) + 1) W (by omega) (by omega))
      clear HD HB HS HY
      generalize monI y k = M at *
      generalize dysI y ((k : Int) + 1) = D at *
      obtain ⟨b11, b12⟩ := b1
      obtain ⟨b21, b22⟩ := b2
      go_wp2_with (go_at_call 38; refine (HDk.out _).mono ?_; rintro e w' ⟨rfl, e2, rfl⟩)
      go_roundw
      case rel => exact ⟨k + 1, _, by omega, by rw [← b3], by go_num, Classical.choose_spec (lay_fold w [_, _] _)⟩
      case measure => simp [intOf]; omega
    · have HM : Hid ((m - 1).toNat = k) := Lib.hid (by omega)
      go_wp2_with fail
      go_ret
      exact ⟨ret_int (by have := HM.out; rw [show m.toNat - 1 = k by omega]), lay_ex _ _⟩
theorem numI_bd {y m d : Int} (h : dateB y m d = true) : -800000 ≤ numI y m d ∧ numI y m d ≤ 4000000 := by
  obtain ⟨⟨a, b⟩, ⟨c, e⟩, f, g⟩ := dateB_iff.1 h
  have := befI_bd a b
  have := monI_bd y (m - 1).toNat
  have := dysI_bd y m
  unfold numI; omega
set_option maxHeartbeats 1000000 in
theorem cal_number (y m d : Int) (w : World) (h : dateB y m d = true) :
    Calls Tryz.prog 51 #[.agg #[.int .i64 y, .int .i64 m, .int .i64 d]] w fun e w' => e = .returned (.int .i64 (numI y m d)) ∧ ∃ d, w' = bw w d := by
  obtain ⟨⟨a, b⟩, ⟨c, e⟩, f, g⟩ := dateB_iff.1 h
  have k1 := dysI_bd y m
  have H1 := Lib.hid (fun W => cal_before y W a b)
  have H2 := Lib.hid (fun W => cal_before 2000 W (by decide) (by decide))
  rw [bef2000] at H2
  have H3 := Lib.hid (fun W => cal_dayOfYear y m d W (by omega) c e f (by omega))
  have b1 := befI_bd a b
  have b2 := monI_bd y (m - 1).toNat
  unfold numI
  generalize befI y = B at *
  generalize monI y (m - 1).toNat = M at *
  have b3 : 0 ≤ M ∧ M ≤ 400 := by omega
  obtain ⟨b11, b12⟩ := b1
  obtain ⟨b31, b32⟩ := b3
  have f2 : d ≤ 31 := by omega
  clear b2 g h k1
  refine lay_start ?_
  go_enter Tryz.func51, Tryz.ntmps51
  go_wp2_with fail
  refine region_bw (by kernel_rfl) (by kernel_rfl) ?_
  repeat (go_big_quiet_step ((first | (go_at_call 73; first | ((with_reducible refine bqs (H1.out _) ?_); exact ⟨_, rfl⟩) | ((with_reducible refine bqs (H2.out _) ?_); exact ⟨_, rfl⟩)) | (go_at_call 74; exact bq (H3.out _) (fun d => ⟨d, rfl⟩)) | (go_at_call 74; exact bq (H3.out _) (fun d => lay_join _ _ _ d)))))
  refine wpQuiet_nil ?_
  rintro w' ⟨d, rfl⟩
  rw [lay_bw]
  go_wp2_with fail
  go_ret
  exact ⟨ret_int (by omega), lay_ex _ _⟩
set_option maxHeartbeats 1000000 in
theorem ref09_Number (y m d : Int) (w : World) (h : dateB y m d = true) :
    Calls Tryz.prog 23 #[.agg #[.int .i64 y, .int .i64 m, .int .i64 d]] w fun e w' => e = .returned (.int .i64 (numI y m d)) ∧ ∃ d, w' = bw w d := by
  obtain ⟨⟨a, b⟩, ⟨c, e⟩, f, g⟩ := dateB_iff.1 h
  have k1 := dysI_bd y m
  have H1 := Lib.hid (fun W => ref09_before y W a b)
  have H2 := Lib.hid (fun W => ref09_before 2000 W (by decide) (by decide))
  rw [bef2000] at H2
  have H3 := Lib.hid (fun W => ref09_DayOfYear y m d W (by omega) c e f (by omega))
  have b1 := befI_bd a b
  have b2 := monI_bd y (m - 1).toNat
  unfold numI
  generalize befI y = B at *
  generalize monI y (m - 1).toNat = M at *
  have b3 : 0 ≤ M ∧ M ≤ 400 := by omega
  obtain ⟨b11, b12⟩ := b1
  obtain ⟨b31, b32⟩ := b3
  have f2 : d ≤ 31 := by omega
  clear b2 g h k1
  refine lay_start ?_
  go_enter Tryz.func23, Tryz.ntmps23
  go_wp2_with fail
  refine region_bw (by kernel_rfl) (by kernel_rfl) ?_
  repeat (go_big_quiet_step ((first | (go_at_call 39; first | ((with_reducible refine bqs (H1.out _) ?_); exact ⟨_, rfl⟩) | ((with_reducible refine bqs (H2.out _) ?_); exact ⟨_, rfl⟩)) | (go_at_call 40; exact bq (H3.out _) (fun d => ⟨d, rfl⟩)) | (go_at_call 40; exact bq (H3.out _) (fun d => lay_join _ _ _ d)))))
  refine wpQuiet_nil ?_
  rintro w' ⟨d, rfl⟩
  rw [lay_bw]
  go_wp2_with fail
  go_ret
  exact ⟨ret_int (by omega), lay_ex _ _⟩
set_option maxHeartbeats 400000 in
theorem cal_right (y m : Int) (w : World) :
    Calls Tryz.prog 71 #[.int .i64 y, .int .i64 m] w fun e w' => e = .returned (.bool (decide ((1 ≤ y ∧ y ≤ 9999) ∧ 1 ≤ m ∧ m ≤ 12))) ∧ w' = w := by
  go_enter Tryz.func71, Tryz.ntmps71
  go_wp2_with fail
  all_goals go_ret
  all_goals exact ⟨ret_bool (by first | (simp [*]; done) | (rw [Bool.eq_iff_iff]; simp; omega)), rfl⟩
set_option maxHeartbeats 1000000 in
theorem cal_Valid (y m d : Int) (w : World) :
    Calls Tryz.prog 50 #[.agg #[.int .i64 y, .int .i64 m, .int .i64 d]] w fun e w' => e = .returned (.bool (dateB y m d)) ∧ ∃ d, w' = bw w d := by
  have HR := Lib.hid (fun W => cal_right y m W)
  by_cases h : (1 ≤ y ∧ y ≤ 9999) ∧ 1 ≤ m ∧ m ≤ 12
  · have HD := Lib.hid (fun W => cal_days y m W (by omega) h.2.1 h.2.2)
    rw [decide_eq_true h] at HR
    have e : dateB y m d = (decide (1 ≤ d) && decide (d ≤ dysI y m)) := by rw [Bool.eq_iff_iff, dateB_iff]; simp only [Bool.and_eq_true, decide_eq_true_eq]; omega
    rw [e]
    clear h e
    generalize dysI y m = D at *
    by_cases h1 : 1 ≤ d
    · have t1 : decide (1 ≤ d) = true := decide_eq_true h1
      clear h1
      rw [t1, Bool.true_and]
      refine lay_start ?_
      go_enter Tryz.func50, Tryz.ntmps50
      go_wp2_with fail
      refine region_bw (by kernel_rfl) (by kernel_rfl) ?_
      repeat (go_big_quiet_step ((first | (go_at_call 71; (with_reducible refine bqs (HR.out _) ?_); exact ⟨_, rfl⟩) | (go_at_call 72; exact bq (HD.out _) (fun d => ⟨d, rfl⟩)) | (go_at_call 72; exact bq (HD.out _) (fun d => lay_join _ _ _ d)))))
      refine wpQuiet_nil ?_
      rintro w' ⟨d, rfl⟩
      rw [lay_bw]
      go_wp2_with fail
      go_ret
      exact ⟨rfl, lay_ex _ _⟩
    · have t1 : decide (1 ≤ d) = false := decide_eq_false h1
      clear h1
      rw [t1, Bool.false_and]
      refine lay_start ?_
      go_enter Tryz.func50, Tryz.ntmps50
      go_wp2_with fail
      refine region_bw (by kernel_rfl) (by kernel_rfl) ?_
      repeat (go_big_quiet_step ((first | (go_at_call 71; (with_reducible refine bqs (HR.out _) ?_); exact ⟨_, rfl⟩))))
      refine wpQuiet_nil ?_
      rintro w' ⟨d, rfl⟩
      rw [lay_bw]
      go_wp2_with fail
      go_ret
      exact ⟨rfl, lay_ex _ _⟩
  · rw [decide_eq_false h] at HR
    have e : dateB y m d = false := by
      cases hd : dateB y m d
      · rfl
      · exact absurd ⟨(dateB_iff.1 hd).1, (dateB_iff.1 hd).2.1⟩ h
    rw [e]
    clear h e
    refine lay_start ?_
    go_enter Tryz.func50, Tryz.ntmps50
    go_wp2_with fail
    refine region_bw (by kernel_rfl) (by kernel_rfl) ?_
    repeat (go_big_quiet_step ((first | (go_at_call 71; (with_reducible refine bqs (HR.out _) ?_); exact ⟨_, rfl⟩))))
    refine wpQuiet_nil ?_
    rintro w' ⟨d, rfl⟩
    rw [lay_bw]
    go_wp2_with fail
    go_ret
    exact ⟨rfl, lay_ex _ _⟩
set_option maxHeartbeats 1000000 in
theorem ref09_Valid (y m d : Int) (w : World) :
    Calls Tryz.prog 21 #[.agg #[.int .i64 y, .int .i64 m, .int .i64 d]] w fun e w' => e = .returned (.bool (dateB y m d)) ∧ ∃ d, w' = bw w d := by
  have ways : (decide (1 ≤ y) = true ∧ decide (y ≤ 9999) = true ∧ decide (1 ≤ m) = true ∧ decide (m ≤ 12) = true ∧ decide (1 ≤ d) = true ∧ dateB y m d = decide (d ≤ dysI y m) ∧ 0 ≤ y ∧ 1 ≤ m ∧ m ≤ 12) ∨
      (dateB y m d = false ∧ (decide (1 ≤ y) = false ∨ (decide (1 ≤ y) = true ∧ decide (y ≤ 9999) = false) ∨ (decide (1 ≤ y) = true ∧ decide (y ≤ 9999) = true ∧ decide (1 ≤ m) = false) ∨
        (decide (1 ≤ y) = true ∧ decide (y ≤ 9999) = true ∧ decide (1 ≤ m) = true ∧ decide (m ≤ 12) = false) ∨ (decide (1 ≤ y) = true ∧ decide (y ≤ 9999) = true ∧ decide (1 ≤ m) = true ∧ decide (m ≤ 12) = true ∧ decide (1 ≤ d) = false))) := by
    unfold dateB
    simp only [decide_eq_true_eq, decide_eq_false_iff_not, decide_eq_decide]
    omega
  rcases ways with ⟨t1, t2, t3, t4, t5, e, y0, m0, m1⟩ | ⟨e, ws⟩
  · have HD := Lib.hid (fun W => ref09_Days y m W y0 m0 m1)
    rw [e]
    clear e y0 m0 m1
    generalize dysI y m = D at *
    refine lay_start ?_
    go_enter Tryz.func21, Tryz.ntmps21
    go_wp2_with fail
    refine region_bw (by kernel_rfl) (by kernel_rfl) ?_
    repeat (go_big_quiet_step ((first | (go_at_call 38; exact bq (HD.out _) (fun d => ⟨d, rfl⟩)) | (go_at_call 38; exact bq (HD.out _) (fun d => lay_join _ _ _ d)))))
    refine wpQuiet_nil ?_
    rintro w' ⟨d, rfl⟩
    rw [lay_bw]
    go_wp2_with fail
    go_ret
    exact ⟨rfl, lay_ex _ _⟩
  · rw [e]
    clear e
    rcases ws with t1 | ⟨t1, t2⟩ | ⟨t1, t2, t3⟩ | ⟨t1, t2, t3, t4⟩ | ⟨t1, t2, t3, t4, t5⟩
    all_goals
      refine lay_start ?_
      go_enter Tryz.func21, Tryz.ntmps21
      go_wp2_with fail
      refine region_bw (by kernel_rfl) (by kernel_rfl) ?_
      repeat (go_big_quiet_step ((first | fail)))
      refine wpQuiet_nil ?_
      rintro w' ⟨d, rfl⟩
      rw [lay_bw]
      go_wp2_with fail
      go_ret
      exact ⟨rfl, lay_ex _ _⟩
set_option maxHeartbeats 1000000 in
theorem cal_Number (y m d : Int) (w : World) :
    Calls Tryz.prog 31 #[.agg #[.int .i64 y, .int .i64 m, .int .i64 d]] w fun e w' => e = .returned (.tuple #[.int .i64 (if dateB y m d = true then numI y m d else 0), .int .i64 (if dateB y m d = true then 0 else 1)]) ∧ ∃ d, w' = bw w d := by
  have HV := Lib.hid (fun W => cal_Valid y m d W)
  cases h : dateB y m d
  · rw [h] at HV
    rw [if_neg Bool.false_ne_true, if_neg Bool.false_ne_true]
    refine lay_start ?_
    go_enter Tryz.func31, Tryz.ntmps31
    go_wp2_with (go_at_call 50; refine (HV.out _).mono ?_; rintro e w' ⟨rfl, e1, rfl⟩)
    go_ret2
    exact ⟨rfl, lay_ex _ _⟩
  · have HN := Lib.hid (fun W => cal_number y m d W h)
    rw [h] at HV
    rw [if_pos rfl, if_pos rfl]
    generalize numI y m d = N at *
    clear h
    refine lay_start ?_
    go_enter Tryz.func31, Tryz.ntmps31
    go_wp2_with (first | (go_at_call 50; refine (HV.out _).mono ?_; rintro e w' ⟨rfl, e1, rfl⟩) | (go_at_call 51; refine (HN.out _).mono ?_; rintro e w' ⟨rfl, e2, rfl⟩))
    go_ret2
    exact ⟨rfl, lay_ex _ _⟩
end Go.Proofs.YtmmfkleplbofgaaGreatDoor
/- The reference's valid tracks. -/
namespace Go.Proofs.YtmmfkleplbofgaaGreatDoor
open Go.RowKit

theorem out_cases (x lo hi : Int) : (decide (x < lo) = true ∧ outB x lo hi = true) ∨ (decide (x < lo) = false ∧ decide (hi < x) = true ∧ outB x lo hi = true) ∨ (decide (x < lo) = false ∧ decide (hi < x) = false ∧ outB x lo hi = false) := by
  unfold outB
  simp only [decide_eq_true_eq, decide_eq_false_iff_not]
  omega
set_option maxHeartbeats 1000000 in
theorem ref13_in (v : Value) (l : List Int) (lo hi : Int) (w : World) (hv : Lst w v l) :
    Calls Tryz.prog 22 #[v, .int .i64 lo, .int .i64 hi] w fun e w' => e = .returned (.bool (inLB l lo hi)) ∧ ∃ d, w' = bw w d := by
  obtain ⟨a, cap, rfl, g1, -, k1⟩ := hv
  obtain ⟨m, hm⟩ : ∃ m, m = l.length := ⟨_, rfl⟩
  rw [← hm] at g1 k1
  rw [← hm]
  have HM := Lib.hid hm
  by_cases hz : m = 0
  · have HN : Hid (true = inLB l lo hi) := Lib.hid (inLB_iff.2 (by rw [← hm, hz]; exact fun i hi => absurd hi (Nat.not_lt_zero i))).symm
    subst hz
    clear k1 hm
    refine lay_start ?_
    go_enter Tryz.func22, Tryz.ntmps22
    go_wp2_with fail
    refine wp_loop_rounds 1 ?_
    rw [rounds_succ]
    go_wp2
    go_ret
    exact ⟨ret_bool HN.out, lay_ex _ _⟩
  · obtain ⟨b, o, rfl, s1, r1⟩ := k1 (by rintro rfl; simp at hm; omega)
    have HR := Lib.hid r1
    clear r1 k1 hm
    refine lay_start ?_
    go_enter Tryz.func22, Tryz.ntmps22
    go_wp2_with fail
    go_loopw [7] (fun i wr => ∃ (k : Nat) (e : Ext), k ≤ m ∧ i = .int .i64 k ∧ wr = lay w [.inr e] ∧ InL l lo hi k) (fun i _ => m - (intOf i).toNat)
    case atStart => exact ⟨0, _, Nat.zero_le _, rfl, Classical.choose_spec (lay_fold w [] _), fun i hi => absurd hi (Nat.not_lt_zero i)⟩
    case round =>
      obtain ⟨k, e, hk, rfl, rfl, hA⟩ := hrel
      have HA := Lib.hid hA
      clear hA
      by_cases hlt : k < m
      · have e1 := HR.out k hlt
        obtain ⟨x, hx⟩ : ∃ x, x = l.getD k 0 := ⟨_, rfl⟩
        rw [← hx] at e1
        have HX := Lib.hid hx
        clear hx
        rcases out_cases x lo hi with ⟨t1, t2⟩ | ⟨t1, t3, t2⟩ | ⟨t1, t3, t2⟩
        · have HN : Hid (false = inLB l lo hi) := Lib.hid (inLB_no fun h => by have := h k (by rw [← HM.out]; exact hlt); rw [← HX.out] at this; have := outB_iff.1 t2; omega).symm
          clear t2
          go_wp2
          go_ret
          exact ⟨ret_bool HN.out, lay_ex _ _⟩
        · have HN : Hid (false = inLB l lo hi) := Lib.hid (inLB_no fun h => by have := h k (by rw [← HM.out]; exact hlt); rw [← HX.out] at this; have := outB_iff.1 t2; omega).symm
          clear t2
          go_wp2
          go_ret
          exact ⟨ret_bool HN.out, lay_ex _ _⟩
        · have HN := Lib.hid t2
          clear t2
          go_wp2
          go_roundw
          case rel => exact ⟨k + 1, _, by omega, by go_num, Classical.choose_spec (lay_all w _), fun i hi => by
            by_cases e : i = k
            · subst e; rw [← HX.out]; have t2 := HN.out; unfold outB at t2; simp only [decide_eq_false_iff_not] at t2; omega
            · exact HA.out i (by omega)⟩
          case measure => simp [intOf]; omega
      · obtain rfl : k = m := by omega
        have HN : Hid (true = inLB l lo hi) := Lib.hid (inLB_iff.2 (by rw [← HM.out]; exact HA.out)).symm
        go_wp2
        go_ret
        exact ⟨ret_bool HN.out, lay_ex _ _⟩
set_option maxHeartbeats 2000000 in
set_option maxRecDepth 100000 in
theorem ref13_ValidTrack (v : Value) (t : TrkV) (w : World) (hv : Trk w v t) :
    Calls Tryz.prog 24 #[v] w fun e w' => e = .returned (.bool (trkB t)) ∧ ∃ d, w' = bw w d := by
  obtain ⟨vg, vd, rfl, hs, hg, hd, hp, hq, hr⟩ := hv
  obtain ⟨s, gs, ds, p, q, r⟩ := t
  simp only at hs hg hd hp hq hr ⊢
  have HG := Lib.hid hg
  have HD := Lib.hid hd
  obtain ⟨ag, cg, rfl, g1, -, -⟩ := hg
  obtain ⟨ad, cd, rfl, d1, -, -⟩ := hd
  have HP := Lib.hid hp
  have HQ := Lib.hid hq
  have HR := Lib.hid hr
  clear hp hq hr
  refine lay_start ?_
  go_enter Tryz.func24, Tryz.ntmps24
  go_wp2_with (first | (go_at_call 41; refine (ref01_IsName _ _ hs).mono ?_; rintro e w' ⟨rfl, rfl⟩) | (go_at_call_of 22 (Value.int .i64 215999); refine (ref13_in _ gs _ _ _ (HG.out.lay _)).mono ?_; rintro e w' ⟨rfl, d, rfl⟩) | (go_at_call_of 22 (Value.int .i64 54000); refine (ref13_in _ ds _ _ _ (HD.out.lay _)).mono ?_; rintro e w' ⟨rfl, d, rfl⟩) | (go_at_call_of 22 (Value.int .i64 200); refine (ref13_in _ [p] _ _ _ (by exact lst_one _ _ _ _ HP.out)).mono ?_; rintro e w' ⟨rfl, d, rfl⟩) | (go_at_call_of 22 (Value.int .i64 620); refine (ref13_in _ [q] _ _ _ (by exact lst_one _ _ _ _ HQ.out)).mono ?_; rintro e w' ⟨rfl, d, rfl⟩) | (go_at_call_of 22 (Value.int .i64 1000); refine (ref13_in _ [r] _ _ _ (by exact lst_one _ _ _ _ HR.out)).mono ?_; rintro e w' ⟨rfl, d, rfl⟩))
  all_goals go_ret
  all_goals exact ⟨ret_bool (by simp [trkB, *]), lay_ex _ _⟩
end Go.Proofs.YtmmfkleplbofgaaGreatDoor
/- Names alike. -/
namespace Go.Proofs.YtmmfkleplbofgaaGreatDoor
open Go.RowKit

/-- Two names are equal. -/
def nmB (a b : ByteArray) : Bool := a.toList == b.toList
end Go.Proofs.YtmmfkleplbofgaaGreatDoor
/- Valid pages: package page's, with its set of names. -/
namespace Go.Proofs.YtmmfkleplbofgaaGreatDoor
open Go.RowKit Go.Maps

theorem TksD.open {P : Nat → Prop} {w : World} {v : Value} {l : List TrkV} (h : TksD P w v l) (hl : 0 < l.length) :
    ∃ b o cap, v = .slice (some ⟨b, o, none⟩) l.length cap ∧ (l.length ≤ cap ∧ cap ≤ 9223372036854775807) ∧ b < w.heap.size ∧ P b ∧ ∀ (i : Nat) t, l[i]? = some t → ∃ x : TkW, tkR.wf x ∧ TkD P w x t ∧
      w.cell? ⟨b, o + i * 6, none⟩ = some (.string x.s) ∧ w.cell? ⟨b, o + i * 6 + 1, none⟩ = some (.slice x.ga x.gn x.gc) ∧ w.cell? ⟨b, o + i * 6 + 2, none⟩ = some (.slice x.da x.dn x.dc) ∧
      w.cell? ⟨b, o + i * 6 + 3, none⟩ = some (.int .i64 x.p) ∧ w.cell? ⟨b, o + i * 6 + 4, none⟩ = some (.int .i64 x.q) ∧ w.cell? ⟨b, o + i * 6 + 5, none⟩ = some (.int .i64 x.r) := by
  obtain ⟨ls, h1, h2, h3, h4⟩ := h
  have hwf := h1.wf
  obtain ⟨b, o, cap, rfl, hc, hb, hr⟩ := h1.open (by omega)
  rw [h3] at hc h2 ⊢
  refine ⟨b, o, cap, rfl, hc, hb, h2 b o _ _ rfl hl, fun i t ht => ?_⟩
  have hi : i < ls.length := by rw [h3]; exact (List.getElem?_eq_some_iff.1 ht).1
  have hx : ls[i]? = some ls[i] := List.getElem?_eq_getElem hi
  exact ⟨ls[i], hwf _ (List.getElem_mem hi), h4 i _ t hx ht, hr i _ hx 0 _ rfl, hr i _ hx 1 _ rfl, hr i _ hx 2 _ rfl, hr i _ hx 3 _ rfl, hr i _ hx 4 _ rfl, hr i _ hx 5 _ rfl⟩
theorem TksD.form {P : Nat → Prop} {w : World} {v : Value} {l : List TrkV} (h : TksD P w v l) : ∃ a cap, v = .slice a l.length cap := by
  obtain ⟨ls, h1, h2, h3, h4⟩ := h
  obtain ⟨a, c, e⟩ := h1.form
  exact ⟨a, c, by rw [e, h3]⟩
/-- The place of the first track with a name, or -1. -/
def fndT (l : List TrkV) (s : ByteArray) : Int := idxR (fun t => nmB t.s s) l 0
def TkOk1 (l : List TrkV) (i : Nat) (t : TrkV) : Prop := trkB t = true ∧ fndT l t.s = (i : Int)
/-- A valid page. -/
structure PgOk (p : PgV) : Prop where
  dt : dateB p.y p.m p.d = true
  lo : -300000 ≤ numI p.y p.m p.d
  hi : numI p.y p.m p.d ≤ 300000
  len : p.ts.length ≤ 12
  ok : ∀ (i : Nat) t, p.ts[i]? = some t → TkOk1 p.ts i t
noncomputable def pgB (p : PgV) : Bool := @decide (PgOk p) (Classical.propDecidable _)
theorem pgB_iff {p : PgV} : pgB p = true ↔ PgOk p := by unfold pgB; simp
theorem pgB_no {p : PgV} (h : ¬ PgOk p) : false = pgB p := by cases e : pgB p; rfl; exact absurd (pgB_iff.1 e) h
theorem pgB_yes {p : PgV} (h : PgOk p) : true = pgB p := (pgB_iff.2 h).symm
/-- A name that an earlier track has is not found here first. -/
theorem fnd_early {l : List TrkV} {i : Nat} {t : TrkV} (h : (l.take i).any (fun x => nmB x.s t.s) = true) : fndT l t.s ≠ (i : Int) := by
  obtain ⟨x, hx, hn⟩ := List.any_eq_true.1 h
  obtain ⟨j, hj⟩ := List.mem_iff_getElem?.1 hx
  have hji : j < i := by have := (List.getElem?_eq_some_iff.1 hj).1; rw [List.length_take] at this; omega
  have hlj : l[j]? = some x := by rw [List.getElem?_take, if_pos hji] at hj; exact hj
  intro he
  -- the first place is at most j
  have key : ∀ (m : List TrkV) (k j : Nat), m[j]? = some x → (0 ≤ idxR (fun y => nmB y.s t.s) m k) ∧ idxR (fun y => nmB y.s t.s) m k ≤ ((k + j : Nat) : Int) := by
    intro m
    induction m with
    | nil => intro k j h; simp at h
    | cons y m ih =>
      intro k j h
      unfold idxR
      split
      · omega
      · rename_i hne
        cases j with
        | zero =>
          simp only [List.getElem?_cons_zero, Option.some.injEq] at h
          subst h
          exact absurd hn hne
        | succ j =>
          rw [List.getElem?_cons_succ] at h
          have := ih (k + 1) j h
          rw [show k + (j + 1) = k + 1 + j by omega]
          exact this
  have := (key l 0 j hlj).2
  unfold fndT at he
  rw [he] at this
  omega
theorem nmB_refl (s : ByteArray) : nmB s s = true := by unfold nmB; exact beq_self_eq_true _
/-- A name that no earlier track has is found here first. -/
theorem fnd_here {l : List TrkV} {i : Nat} {t : TrkV} (ht : l[i]? = some t) (h : (l.take i).any (fun x => nmB x.s t.s) = false) : fndT l t.s = (i : Int) := by
  have key : ∀ (m : List TrkV) (k j : Nat), m[j]? = some t → (m.take j).any (fun x => nmB x.s t.s) = false → idxR (fun y => nmB y.s t.s) m k = ((k + j : Nat) : Int) := by
    intro m
    induction m with
    | nil => intro k j h; simp at h
    | cons y m ih =>
      intro k j h hno
      cases j with
      | zero =>
        simp only [List.getElem?_cons_zero, Option.some.injEq] at h
        subst h
        unfold idxR
        rw [if_pos (nmB_refl _)]
        simp
      | succ j =>
        rw [List.getElem?_cons_succ] at h
        rw [List.take_succ_cons, List.any_cons, Bool.or_eq_false_iff] at hno
        unfold idxR
        rw [if_neg (by rw [hno.1]; exact Bool.false_ne_true), ih (k + 1) j h hno.2]
        omega
  have := key l 0 i ht h
  unfold fndT
  rw [this, Nat.zero_add]
theorem setNames (l : List TrkV) (i : Nat) (s : ByteArray) : (((l.take i).map TrkV.s).any fun x => x.toList == s.toList) = (l.take i).any (fun x => nmB x.s s) := by
  rw [List.any_map]; rfl
end Go.Proofs.YtmmfkleplbofgaaGreatDoor
/- The reference's decimal, for numbers below 100. -/
namespace Go.Proofs.YtmmfkleplbofgaaGreatDoor
open Go.RowKit

/-- The decimal digits of a number. -/
def dgB (i : Nat) : ByteArray := ⟨(Lib.decDigits i).toArray⟩
set_option maxHeartbeats 1000000 in
set_option maxRecDepth 100000 in
theorem ref_dec1 (i : Nat) (hi : i < 10) (w : World) :
    Calls Tryz.prog 37 #[.int .i64 (i : Int)] w fun e w' => e = .returned (.string ⟨#[(48 + i).toUInt8]⟩) ∧ w' = w := by
  have hq : i = 0 ∨ i = 1 ∨ i = 2 ∨ i = 3 ∨ i = 4 ∨ i = 5 ∨ i = 6 ∨ i = 7 ∨ i = 8 ∨ i = 9 := by omega
  rcases hq with rfl | rfl | rfl | rfl | rfl | rfl | rfl | rfl | rfl | rfl
  all_goals
    go_enter Tryz.func37, Tryz.ntmps37
    go_wp2
    go_ret
    exact ⟨rfl, rfl⟩
theorem dg2 : ∀ q : Fin 10, ∀ r : Fin 10, 0 < q.val → (dgB (10 * q.val + r.val)).data.toList = [(48 + q.val).toUInt8, (48 + r.val).toUInt8] := by decide +kernel
theorem dg1 : ∀ q : Fin 10, (dgB q.val).data.toList = [(48 + q.val).toUInt8] := by decide +kernel
set_option maxHeartbeats 4000000 in
set_option maxRecDepth 100000 in
theorem ref_decimal (i : Nat) (hi : i < 100) (w : World) :
    Calls Tryz.prog 37 #[.int .i64 (i : Int)] w fun e w' => e = .returned (.string (dgB i)) ∧ w' = w := by
  by_cases h1 : i < 10
  · have e : (⟨#[(48 + i).toUInt8]⟩ : ByteArray) = dgB i := by
      have := dg1 ⟨i, h1⟩
      apply ByteArray.ext
      rw [← Array.toList_inj]; exact this.symm
    rw [← e]
    exact ref_dec1 i h1 w
  · have h10 : (i : Int).tdiv 10 = ((i / 10 : Nat) : Int) := by rw [Int.tdiv_eq_ediv_of_nonneg (by omega)]; rfl
    have hm : (i : Int).tmod 10 = ((i % 10 : Nat) : Int) := by rw [Int.tmod_eq_emod_of_nonneg (by omega)]; rfl
    have H := Lib.hid (fun W => ref_dec1 (i / 10) (by omega) W)
    have e : (⟨#[(48 + i / 10).toUInt8]⟩ : ByteArray) ++ ⟨#[(48 + i % 10).toUInt8]⟩ = dgB i := by
      have := dg2 ⟨i / 10, by omega⟩ ⟨i % 10, by omega⟩ (by show 0 < i / 10; omega)
      have e2 : 10 * (i / 10) + i % 10 = i := by omega
      simp only [e2] at this
      apply ByteArray.ext
      rw [← Array.toList_inj, this]
      simp
    rw [← e]
    have hr : i % 10 < 10 := by omega
    have hq : i / 10 < 10 := by omega
    have hb : (10 : Int) ≤ (i : Int) := by omega
    have hb2 : (i : Int) < 100 := by omega
    clear e
    generalize (48 + i / 10).toUInt8 = B8 at *
    generalize i / 10 = q at *
    generalize i % 10 = r at *
    generalize (i : Int) = I at *
    have hq2 : r = 0 ∨ r = 1 ∨ r = 2 ∨ r = 3 ∨ r = 4 ∨ r = 5 ∨ r = 6 ∨ r = 7 ∨ r = 8 ∨ r = 9 := by omega
    rcases hq2 with rfl | rfl | rfl | rfl | rfl | rfl | rfl | rfl | rfl | rfl
    all_goals
      go_enter Tryz.func37, Tryz.ntmps37
      go_wp2_with (go_at_call 37; refine (H.out _).mono ?_; rintro e w' ⟨rfl, rfl⟩)
      go_ret
      exact ⟨rfl, rfl⟩
end Go.Proofs.YtmmfkleplbofgaaGreatDoor
/- Rows of strings; lines with decimal numbers. -/
namespace Go.Proofs.YtmmfkleplbofgaaGreatDoor
open Go.RowKit

def strR : RecT ByteArray := { E := 9, S := 33, k := 1, bytes := 16, enc := fun x => [.string x], wf := fun x => x.size ≤ 9223372036854775807 }
theorem info_str : (Tryz.prog.info? 9).map (fun i => (i.zero.map (fun z => z.cells.size), i.size, i.bytes)) = some (some 1, 1, 16) := by kernel_rfl
theorem strOk : RecOk strR where
  len _ := rfl
  one x u hu := by
    simp only [strR, List.mem_cons, List.not_mem_nil, or_false] at hu
    rcases hu with rfl
    rfl
  pos := by decide
  und := Tryz.underlying33
  info := recInfo info_str
  small := by decide
def lnB (b : ByteArray) (i : Int) : ByteArray := b ++ dgB i.toNat
def lnL (b : ByteArray) (l : List Int) : List ByteArray := l.map (lnB b)
theorem dgB_size {i : Nat} (h : i < 100) : (dgB i).size ≤ 2 := by
  have : ∀ i : Fin 100, (dgB i.val).size ≤ 2 := by decide +kernel
  exact this ⟨i, h⟩
theorem lnB_size {b : ByteArray} {i : Int} (h0 : 0 ≤ i) (h : i < 100) : (lnB b i).size ≤ b.size + 2 := by
  unfold lnB
  have := dgB_size (i := i.toNat) (by omega)
  rw [ByteArray.size_append]; omega
theorem lnL_wf {b : ByteArray} {l : List Int} (hb : b.size ≤ 1000) (h : ∀ x ∈ l, 0 ≤ x ∧ x < 100) : ∀ y ∈ lnL b l, strR.wf y := by
  intro y hy
  obtain ⟨x, hx, rfl⟩ := List.mem_map.1 hy
  have := lnB_size (b := b) (h x hx).1 (h x hx).2
  show (lnB b x).size ≤ 9223372036854775807
  omega
theorem lnL_take (b : ByteArray) (l : List Int) (k : Nat) (h : k < l.length) : lnL b (l.take (k + 1)) = lnL b (l.take k) ++ [lnB b (nth l k)] := by
  unfold lnL
  rw [List.take_succ_eq_append_getElem h, List.map_append]
  congr 1
  have e : nth l k = l[k] := by unfold nth; simp [List.getD, h]
  rw [e]; rfl
end Go.Proofs.YtmmfkleplbofgaaGreatDoor
/- Pages of suspects: what the lines are; the suspects of a track that is right are indexes; no error. No function of the program. -/
namespace Go.Proofs.YtmmfkleplbofgaaGreatDoor
open Go.RowKit

def ghaS : ByteArray := ⟨#[32, 103, 104, 97, 32]⟩
def decS : ByteArray := ⟨#[32, 100, 101, 99, 32]⟩
def gaL (t : TrkV) : List Int := susG t.g t.d t.r
def deL (t : TrkV) : List Int := susD t.g t.d t.r
/-- The lines for a track, and for a page. -/
def trL (t : TrkV) : List ByteArray := lnL (t.s ++ ghaS) (gaL t) ++ lnL (t.s ++ decS) (deL t)
def tsL (l : List TrkV) : List ByteArray := l.flatMap trL
theorem susL_at {wr : Bool} {l : List Int} {bend : Int} (h : 3 ≤ l.length) : ∀ x ∈ susL wr l bend, 0 ≤ x ∧ x < (l.length : Int) := by
  intro x hx
  have hB : ∀ y ∈ badL wr l bend 1 (l.length - 1), 0 ≤ y ∧ y < (l.length : Int) := by
    intro y hy
    obtain ⟨j, rfl, h1, h2, -⟩ := mem_badL.1 hy
    omega
  unfold susL at hx
  split at hx
  · exact absurd hx (List.not_mem_nil)
  · rename_i hne
    unfold sus2 at hx
    split at hx
    · exact hB x hx
    · obtain ⟨i, rfl, h1, h2, -⟩ := mem_reps.1 hx
      have := hB _ (nth_mem (l := badL wr l bend 1 (l.length - 1)) (i := 0) (List.length_pos_iff.2 hne))
      unfold susHi at h2
      omega
theorem susL_len {wr : Bool} {l : List Int} {bend : Int} (h : 3 ≤ l.length) : (susL wr l bend).length ≤ l.length + 1 := by
  unfold susL
  split
  · simp
  · rename_i hne
    have hB : (badL wr l bend 1 (l.length - 1)).length ≤ l.length := by
      unfold badL badN
      rw [List.length_map]
      refine Nat.le_trans (List.length_filter_le _ _) ?_
      rw [List.length_range']; omega
    unfold sus2
    split
    · omega
    · refine Nat.le_trans (reps_len _ _ _ _ _) ?_
      unfold susHi
      omega
theorem trk_giv {t : TrkV} (h : trkB t = true) : susE t.g t.d t.r = 0 := by
  obtain ⟨-, h2, h3, h4, h5, -, -, h8⟩ := trkB_iff.1 h
  have hg := inLB_iff.1 h4
  have hd := inLB_iff.1 h5
  have hr := inLB_iff.1 h8 0 (by simp)
  have hr' : 0 ≤ t.r ∧ t.r ≤ 1000 := by simpa [nth] using hr
  have e1 : gvE true t.g t.r = 0 := gvE_0.2 ⟨⟨by omega, by omega, fun i hi => by
    have h9 : 0 ≤ nth t.g i ∧ nth t.g i ≤ 215999 := hg i hi
    unfold permB; simp; omega⟩, hr'.1, hr'.2⟩
  have e2 : gvE false t.d t.r = 0 := gvE_0.2 ⟨⟨by omega, by omega, fun i hi => by
    have h9 : -54000 ≤ nth t.d i ∧ nth t.d i ≤ 54000 := hd i hi
    unfold permB; simp; omega⟩, hr'.1, hr'.2⟩
  unfold susE
  rw [if_pos e1, e2]
theorem trk_lists {t : TrkV} (h : trkB t = true) : (∀ x ∈ gaL t, 0 ≤ x ∧ x < 100) ∧ (∀ x ∈ deL t, 0 ≤ x ∧ x < 100) ∧ (gaL t).length ≤ 26 ∧ (deL t).length ≤ 26 := by
  have h0 := trk_giv h
  obtain ⟨-, h2, h3, -⟩ := trkB_iff.1 h
  unfold gaL deL susG susD
  rw [if_pos h0, if_pos h0]
  refine ⟨fun x hx => ?_, fun x hx => ?_, ?_, ?_⟩
  · have := susL_at (by omega) x hx; omega
  · have := susL_at (by omega) x hx; omega
  · have := susL_len (wr := true) (bend := t.r) (l := t.g) (by omega); omega
  · have := susL_len (wr := false) (bend := t.r) (l := t.d) (by omega); omega
theorem tsL_take (l : List TrkV) (k : Nat) (t : TrkV) (h : l[k]? = some t) : tsL (l.take (k + 1)) = tsL (l.take k) ++ trL t := by
  obtain ⟨hk, rfl⟩ := List.getElem?_eq_some_iff.1 h
  unfold tsL
  rw [List.take_succ_eq_append_getElem hk, List.flatMap_append]
  simp
theorem tsL_len {l : List TrkV} (h : ∀ t ∈ l, trkB t = true) : (tsL l).length ≤ l.length * 52 := by
  induction l with
  | nil => simp [tsL]
  | cons t l ih =>
    have h1 := trk_lists (h t (List.mem_cons_self ..))
    have h2 := ih fun x hx => h x (List.mem_cons_of_mem _ hx)
    unfold tsL at *
    rw [List.flatMap_cons, List.length_append, List.length_cons]
    have h3 : (trL t).length = (gaL t).length + (deL t).length := by unfold trL lnL; rw [List.length_append, List.length_map, List.length_map]
    omega
end Go.Proofs.YtmmfkleplbofgaaGreatDoor
/- An append of a string to a row of the call's own, beside slices of ints and a block that lie elsewhere. No function of the program. -/
namespace Go.Proofs.YtmmfkleplbofgaaGreatDoor
open Go.RowKit

/-- A slice that reads is not in this row's block. -/
def Ap (v : Value) (u : Value) (l : List Int) : Prop := l ≠ [] → ∀ k, u.ownBlock = some k → v.ownBlock ≠ some k
theorem Ap.frsh {w W : World} {base : Nat} {v u : Value} {α : Type} {R : RecT α} {l : List α} {m : List Int} (h : OwG R w base v l) (hu : Frsh W u) (hW : w.heap.size ≤ W.heap.size) : Ap v u m := fun _ k hk hv => by
  have h1 := hu k hk
  have h2 := (h.1.lt k hv).2
  omega
/-- What an append to a row leaves: the other blocks; the row is where it was, or in a new block. -/
structure Grw (wb w' : World) (v v' : Value) : Prop where
  size : wb.heap.size ≤ w'.heap.size
  kept : ∀ k, k < wb.heap.size → v.ownBlock ≠ some k → w'.heap[k]? = wb.heap[k]?
  at_ : ∀ k, v'.ownBlock = some k → v.ownBlock = some k ∨ wb.heap.size ≤ k
/-- What stands beside a row: two slices that read, and a block. -/
structure Bsd (w : World) (v v1 v2 : Value) (G D : List Int) (tb : Nat) (o : Obj) : Prop where
  s1 : Sl w v1 G
  s2 : Sl w v2 D
  a1 : Ap v v1 G
  a2 : Ap v v2 D
  blk : w.heap[tb]? = some o
  ab : v.ownBlock ≠ some tb
theorem Grw.sl {wb w' : World} {v v' u : Value} {l : List Int} (hg : Grw wb w' v v') (h : Sl wb u l) (ha : Ap v u l) : Sl w' u l ∧ Ap v' u l := by
  refine ⟨?_, fun hl k hk hv => ?_⟩
  · obtain ⟨a, c, rfl, h2, h3, h4⟩ := h
    refine ⟨a, c, rfl, h2, h3, fun hl => ?_⟩
    obtain ⟨b, o, rfl, h5, h6⟩ := h4 hl
    exact ⟨b, o, rfl, Nat.lt_of_lt_of_le h5 hg.size, fun i hi => (cell_keep (hg.kept b h5 (ha hl b rfl))).trans (h6 i hi)⟩
  · rcases hg.at_ k hv with hat | hat
    · exact ha hl k hk hat
    · obtain ⟨b, o, cap', hub, -, -, hb', -⟩ := h.open (List.length_pos_iff.2 hl)
      rw [hub] at hk
      have : b = k := by simpa [Value.ownBlock] using hk
      omega
theorem Grw.bsd {wb w' : World} {v v' v1 v2 : Value} {G D : List Int} {tb : Nat} {o : Obj} (hg : Grw wb w' v v') (h : Bsd wb v v1 v2 G D tb o) : Bsd w' v' v1 v2 G D tb o := by
  have hlt : tb < wb.heap.size := (Array.getElem?_eq_some_iff.1 h.blk).1
  refine ⟨(hg.sl h.s1 h.a1).1, (hg.sl h.s2 h.a2).1, (hg.sl h.s1 h.a1).2, (hg.sl h.s2 h.a2).2, (hg.kept tb hlt h.ab).trans h.blk, fun e => ?_⟩
  rcases hg.at_ tb e with h1 | h1
  · exact h.ab h1
  · omega
theorem Bsd.on {w : World} {v v1 v2 : Value} {G D : List Int} {tb : Nat} {o : Obj} {A B : List (Obj ⊕ Ext)} (h : Bsd (lay w B) v v1 v2 G D tb o) : Bsd (lay w (A ++ B)) v v1 v2 G D tb o :=
  ⟨sl_on h.s1, sl_on h.s2, h.a1, h.a2, ((lay_belowG (A := A)).block tb (Array.getElem?_eq_some_iff.1 h.blk).1).trans h.blk, h.ab⟩
theorem Bsd.cell {w : World} {v v1 v2 : Value} {G D : List Int} {tb : Nat} {cs : Array Value} {te : TypeId} {fr : Nat × Nat} (h : Bsd w v v1 v2 G D tb (.cells cs te fr)) (i : Nat) (u : Value) (hu : cs[i]? = some u) : w.cell? ⟨tb, i, none⟩ = some u := by
  rw [cell_of_row w tb i cs te fr h.blk, hu]
theorem push_strO {ops : Array Oper} {rest : List Oper} {o : Oper} {a : Act} {Q : Exit → Act → World → Prop} (hgd : o.guard = none) (s x : Operand)
    (ho : o.op = .call { callee := .builtin .append, args := #[s, x], argTypes := #[33, 33] })
    (W0 : World) (wb : World) (c : ByteArray) (te : TypeId) (xb : Nat) (v : Value) (l : List ByteArray) (hw : Below W0.heap.size W0 wb) (hown : OwG strR wb W0.heap.size v l)
    (hcell : wb.heap[xb]? = some (.cells #[.string c] te (0, 0))) (hs : a.eval s = v) (hx : a.eval x = .slice (some ⟨xb, 0, none⟩) 1 1)
    (hn : l.length ≤ 1000000000) (hc : strR.wf c)
    (h : ∀ v' d, OwG strR (Go.Proofs.YtmmfkleplbofgaaGreatDoor.bw W0 d) W0.heap.size v' (l ++ [c]) → Grw wb (Go.Proofs.YtmmfkleplbofgaaGreatDoor.bw W0 d) v v' → wpList Tryz.prog ops Q rest (a.put o.dst v') (Go.Proofs.YtmmfkleplbofgaaGreatDoor.bw W0 d)) :
    wpList Tryz.prog ops Q (o :: rest) a wb := by
  have hR := strOk
  obtain ⟨i, z, hi, hz0, hz1, hz2, hz3⟩ := hR.info
  have hM : maxLen = 9223372036854775807 := by decide
  have hb := hR.small
  have hb2 : (l.length + 1) * strR.bytes ≤ 1000000001 * 1000 := Nat.mul_le_mul (by omega) hb
  refine wpList_append_lies wb hgd s x strR.S ho W0.heap.size strR.E i z strR.k strR.bytes hR.und hi hz0 hz1 hz2 hz3 hR.pos v l.length (l.flatMap strR.enc) hs hown.1 ⟨xb, 0, none⟩ 1 1 (strR.enc c) hx (by rw [hR.len, Nat.one_mul]) (by exact World.news_of_block (cs := #[.string c]) hcell) (hR.one c) (by decide) (by omega) (by omega) hw.size wb.heap.size rfl ?_
  intro g cap w' hown' hg hat _
  obtain ⟨d, hd⟩ := bw_of (w := W0) (w' := w') (hw.grown hg hw.size (fun k hk => (hown.1.lt k hk).1))
  subst hd
  refine h _ d ⟨?_, fun y hy => ?_⟩ ⟨hg.size, fun k hk hne => hg.block k hk (fun e => hne e.symm), fun k hk => ?_⟩
  · rw [List.flatMap_append, List.length_append]
    simpa using hown'
  · rcases List.mem_append.1 hy with hy | hy
    · exact hown.2 y hy
    · rw [List.mem_singleton.1 hy]; exact hc
  · have hkg : g = k := by simpa [Value.ownBlock] using hk
    subst hkg
    rcases hat with hat | hat
    · exact .inl hat
    · exact .inr (by omega)
end Go.Proofs.YtmmfkleplbofgaaGreatDoor

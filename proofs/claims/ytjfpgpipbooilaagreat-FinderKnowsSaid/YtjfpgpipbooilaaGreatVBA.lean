/- Contracts and plain laws, several texts in one: Cal2; Pg2; Pg3; Sta2 -/
import Derived.Test.YtjfpgpipbooilaaGreatProg
import Derived.WalkKit
import Derived.WalkSpells
import Derived.WalkLawsBesides
import Derived.Lib.Hide
import Derived.BigQuiet
import Derived.Deep.RegionWith
import Derived.Test.YtjfpgpipbooilaaGreatVAA
import Derived.Test.YtjfpgpipbooilaaGreatVAB
import Derived.Test.YtjfpgpipbooilaaGreatVAY
import Derived.Test.YtjfpgpipbooilaaGreatVAZ
/- Dates: valid ones, their numbers. -/
namespace Go.Proofs.YtjfpgpipbooilaaGreat
set_option maxHeartbeats 1000000
open Go.RowKit

theorem cal_dayOfYear (y m d : Int) (w : World) (hy : 0 ≤ y) (h0 : 1 ≤ m) (h1 : m ≤ 12) (d0 : 1 ≤ d) (d1 : d ≤ 31) :
    Calls Tryz.prog 150 #[.agg #[.int .i64 y, .int .i64 m, .int .i64 d]] w fun e w' => e = .returned (.int .i64 (d + monI y (m - 1).toNat)) ∧ ∃ d, w' = bw w d := by
  have HD := Lib.hid (fun j W (a : 1 ≤ j) (b : j ≤ 12) => cal_days y j W hy a b)
  have HB := Lib.hid (fun k => monI_bd y k)
  have HS : Hid (∀ k : Nat, d + monI y k + dysI y ((k : Int) + 1) = d + monI y (k + 1)) := Lib.hid (fun k => by simp only [monI]; omega)
  have HY := Lib.hid (fun j => dysI_bd y j)
  refine lay_start ?_
  go_enter Tryz.func150, Tryz.ntmps150
  go_wp2_with fail
  go_loopw [3, 4] (fun v3 v4 wr => ∃ (k : Nat) (e : Ext), (k : Int) + 1 ≤ m ∧ v3 = .int .i64 (d + monI y k) ∧ v4 = .int .i64 ((k : Int) + 1) ∧ wr = lay w [.inr e, .inl (.cells #[.int .i64 y, .int .i64 m, .int .i64 d] 109 (0, 0))]) (fun _ v4 _ => m.toNat - (intOf v4).toNat)
  case atStart => exact ⟨0, noExt _, by omega, by simp [monI], rfl, (bw_noExt _).symm⟩
  case round =>
    obtain ⟨k, e, hk, rfl, rfl, rfl⟩ := hrel
    by_cases hlt : (k : Int) + 1 < m
    · have b1 := HB.out k
      have b2 := HY.out ((k : Int) + 1)
      have b3 := HS.out k
      have HDk := Lib.hid (fun W => HD.out ((k : Int) + 1) W (by omega) (by omega))
      clear HD HB HS HY
      generalize monI y k = M at *
      generalize dysI y ((k : Int) + 1) = D at *
      obtain ⟨b11, b12⟩ := b1
      obtain ⟨b21, b22⟩ := b2
      go_wp2_with (go_at_call 148; refine (HDk.out _).mono ?_; rintro e w' ⟨rfl, e2, rfl⟩)
      go_roundw
      case rel => exact ⟨k + 1, _, by omega, by rw [← b3], by go_num, Classical.choose_spec (lay_fold w [_, _] _)⟩
      case measure => simp [intOf]; omega
    · have HM : Hid ((m - 1).toNat = k) := Lib.hid (by omega)
      go_wp2_with fail
      go_ret
      exact ⟨ret_int (by have := HM.out; rw [show m.toNat - 1 = k by omega]), lay_ex _ _⟩
theorem ref09_DayOfYear (y m d : Int) (w : World) (hy : 0 ≤ y) (h0 : 1 ≤ m) (h1 : m ≤ 12) (d0 : 1 ≤ d) (d1 : d ≤ 31) :
    Calls Tryz.prog 119 #[.agg #[.int .i64 y, .int .i64 m, .int .i64 d]] w fun e w' => e = .returned (.int .i64 (d + monI y (m - 1).toNat)) ∧ ∃ d, w' = bw w d := by
  have HD := Lib.hid (fun j W (a : 1 ≤ j) (b : j ≤ 12) => ref09_Days y j W hy a b)
  have HB := Lib.hid (fun k => monI_bd y k)
  have HS : Hid (∀ k : Nat, d + monI y k + dysI y ((k : Int) + 1) = d + monI y (k + 1)) := Lib.hid (fun k => by simp only [monI]; omega)
  have HY := Lib.hid (fun j => dysI_bd y j)
  refine lay_start ?_
  go_enter Tryz.func119, Tryz.ntmps119
  go_wp2_with fail
  go_loopw [3, 4] (fun v3 v4 wr => ∃ (k : Nat) (e : Ext), (k : Int) + 1 ≤ m ∧ v3 = .int .i64 (d + monI y k) ∧ v4 = .int .i64 ((k : Int) + 1) ∧ wr = lay w [.inr e, .inl (.cells #[.int .i64 y, .int .i64 m, .int .i64 d] 109 (0, 0))]) (fun _ v4 _ => m.toNat - (intOf v4).toNat)
  case atStart => exact ⟨0, noExt _, by omega, by simp [monI], rfl, (bw_noExt _).symm⟩
  case round =>
    obtain ⟨k, e, hk, rfl, rfl, rfl⟩ := hrel
    by_cases hlt : (k : Int) + 1 < m
    · have b1 := HB.out k
      have b2 := HY.out ((k : Int) + 1)
      have b3 := HS.out k
      have HDk := Lib.hid (fun W => HD.out ((k : Int) + 1) W (by omega) (by omega))
      clear HD HB HS HY
      generalize monI y k = M at *
      generalize dysI y ((k : Int) + 1) = D at *
      obtain ⟨b11, b12⟩ := b1
      obtain ⟨b21, b22⟩ := b2
      go_wp2_with (go_at_call 151; refine (HDk.out _).mono ?_; rintro e w' ⟨rfl, e2, rfl⟩)
      go_roundw
      case rel => exact ⟨k + 1, _, by omega, by rw [← b3], by go_num, Classical.choose_spec (lay_fold w [_, _] _)⟩
      case measure => simp [intOf]; omega
    · have HM : Hid ((m - 1).toNat = k) := Lib.hid (by omega)
      go_wp2_with fail
      go_ret
      exact ⟨ret_int (by have := HM.out; rw [show m.toNat - 1 = k by omega]), lay_ex _ _⟩
theorem numI_bd {y m d : Int} (h : dateB y m d = true) : -800000 ≤ numI y m d ∧ numI y m d ≤ 4000000 := by
  obtain ⟨⟨a, b⟩, ⟨c, e⟩, f, g⟩ := dateB_iff.1 h
  have := befI_bd a b
  have := monI_bd y (m - 1).toNat
  have := dysI_bd y m
  unfold numI; omega
theorem cal_number (y m d : Int) (w : World) (h : dateB y m d = true) :
    Calls Tryz.prog 110 #[.agg #[.int .i64 y, .int .i64 m, .int .i64 d]] w fun e w' => e = .returned (.int .i64 (numI y m d)) ∧ ∃ d, w' = bw w d := by
  obtain ⟨⟨a, b⟩, ⟨c, e⟩, f, g⟩ := dateB_iff.1 h
  have k1 := dysI_bd y m
  have H1 := Lib.hid (fun W => cal_before y W a b)
  have H2 := Lib.hid (fun W => cal_before 2000 W (by decide) (by decide))
  rw [bef2000] at H2
  have H3 := Lib.hid (fun W => cal_dayOfYear y m d W (by omega) c e f (by omega))
  have b1 := befI_bd a b
  have b2 := monI_bd y (m - 1).toNat
  unfold numI
  generalize befI y = B at *
  generalize monI y (m - 1).toNat = M at *
  have b3 : 0 ≤ M ∧ M ≤ 400 := by omega
  obtain ⟨b11, b12⟩ := b1
  obtain ⟨b31, b32⟩ := b3
  have f2 : d ≤ 31 := by omega
  clear b2 g h k1
  refine lay_start ?_
  go_enter Tryz.func110, Tryz.ntmps110
  go_wp2_with fail
  refine region_bw (by kernel_rfl) (by kernel_rfl) ?_
  repeat (go_big_quiet_step ((first | (go_at_call 149; first | ((with_reducible refine bqs (H1.out _) ?_); exact ⟨_, rfl⟩) | ((with_reducible refine bqs (H2.out _) ?_); exact ⟨_, rfl⟩)) | (go_at_call 150; exact bq (H3.out _) (fun d => ⟨d, rfl⟩)) | (go_at_call 150; exact bq (H3.out _) (fun d => lay_join _ _ _ d)))))
  refine wpQuiet_nil ?_
  rintro w' ⟨d, rfl⟩
  rw [lay_bw]
  go_wp2_with fail
  go_ret
  exact ⟨ret_int (by omega), lay_ex _ _⟩
theorem ref09_Number (y m d : Int) (w : World) (h : dateB y m d = true) :
    Calls Tryz.prog 69 #[.agg #[.int .i64 y, .int .i64 m, .int .i64 d]] w fun e w' => e = .returned (.int .i64 (numI y m d)) ∧ ∃ d, w' = bw w d := by
  obtain ⟨⟨a, b⟩, ⟨c, e⟩, f, g⟩ := dateB_iff.1 h
  have k1 := dysI_bd y m
  have H1 := Lib.hid (fun W => ref09_before y W a b)
  have H2 := Lib.hid (fun W => ref09_before 2000 W (by decide) (by decide))
  rw [bef2000] at H2
  have H3 := Lib.hid (fun W => ref09_DayOfYear y m d W (by omega) c e f (by omega))
  have b1 := befI_bd a b
  have b2 := monI_bd y (m - 1).toNat
  unfold numI
  generalize befI y = B at *
  generalize monI y (m - 1).toNat = M at *
  have b3 : 0 ≤ M ∧ M ≤ 400 := by omega
  obtain ⟨b11, b12⟩ := b1
  obtain ⟨b31, b32⟩ := b3
  have f2 : d ≤ 31 := by omega
  clear b2 g h k1
  refine lay_start ?_
  go_enter Tryz.func69, Tryz.ntmps69
  go_wp2_with fail
  refine region_bw (by kernel_rfl) (by kernel_rfl) ?_
  repeat (go_big_quiet_step ((first | (go_at_call 118; first | ((with_reducible refine bqs (H1.out _) ?_); exact ⟨_, rfl⟩) | ((with_reducible refine bqs (H2.out _) ?_); exact ⟨_, rfl⟩)) | (go_at_call 119; exact bq (H3.out _) (fun d => ⟨d, rfl⟩)) | (go_at_call 119; exact bq (H3.out _) (fun d => lay_join _ _ _ d)))))
  refine wpQuiet_nil ?_
  rintro w' ⟨d, rfl⟩
  rw [lay_bw]
  go_wp2_with fail
  go_ret
  exact ⟨ret_int (by omega), lay_ex _ _⟩
theorem cal_right (y m : Int) (w : World) :
    Calls Tryz.prog 147 #[.int .i64 y, .int .i64 m] w fun e w' => e = .returned (.bool (decide ((1 ≤ y ∧ y ≤ 9999) ∧ 1 ≤ m ∧ m ≤ 12))) ∧ w' = w := by
  go_enter Tryz.func147, Tryz.ntmps147
  go_wp2_with fail
  all_goals go_ret
  all_goals exact ⟨ret_bool (by first | (simp [*]; done) | (rw [Bool.eq_iff_iff]; simp; omega)), rfl⟩
theorem cal_Valid (y m d : Int) (w : World) :
    Calls Tryz.prog 109 #[.agg #[.int .i64 y, .int .i64 m, .int .i64 d]] w fun e w' => e = .returned (.bool (dateB y m d)) ∧ ∃ d, w' = bw w d := by
  have HR := Lib.hid (fun W => cal_right y m W)
  by_cases h : (1 ≤ y ∧ y ≤ 9999) ∧ 1 ≤ m ∧ m ≤ 12
  · have HD := Lib.hid (fun W => cal_days y m W (by omega) h.2.1 h.2.2)
    rw [decide_eq_true h] at HR
    have e : dateB y m d = (decide (1 ≤ d) && decide (d ≤ dysI y m)) := by rw [Bool.eq_iff_iff, dateB_iff]; simp only [Bool.and_eq_true, decide_eq_true_eq]; omega
    rw [e]
    clear h e
    generalize dysI y m = D at *
    by_cases h1 : 1 ≤ d
    · have t1 : decide (1 ≤ d) = true := decide_eq_true h1
      clear h1
      rw [t1, Bool.true_and]
      refine lay_start ?_
      go_enter Tryz.func109, Tryz.ntmps109
      go_wp2_with fail
      refine region_bw (by kernel_rfl) (by kernel_rfl) ?_
      repeat (go_big_quiet_step ((first | (go_at_call 147; (with_reducible refine bqs (HR.out _) ?_); exact ⟨_, rfl⟩) | (go_at_call 148; exact bq (HD.out _) (fun d => ⟨d, rfl⟩)) | (go_at_call 148; exact bq (HD.out _) (fun d => lay_join _ _ _ d)))))
      refine wpQuiet_nil ?_
      rintro w' ⟨d, rfl⟩
      rw [lay_bw]
      go_wp2_with fail
      go_ret
      exact ⟨rfl, lay_ex _ _⟩
    · have t1 : decide (1 ≤ d) = false := decide_eq_false h1
      clear h1
      rw [t1, Bool.false_and]
      refine lay_start ?_
      go_enter Tryz.func109, Tryz.ntmps109
      go_wp2_with fail
      refine region_bw (by kernel_rfl) (by kernel_rfl) ?_
      repeat (go_big_quiet_step ((first | (go_at_call 147; (with_reducible refine bqs (HR.out _) ?_); exact ⟨_, rfl⟩))))
      refine wpQuiet_nil ?_
      rintro w' ⟨d, rfl⟩
      rw [lay_bw]
      go_wp2_with fail
      go_ret
      exact ⟨rfl, lay_ex _ _⟩
  · rw [decide_eq_false h] at HR
    have e : dateB y m d = false := by
      cases hd : dateB y m d
      · rfl
      · exact absurd ⟨(dateB_iff.1 hd).1, (dateB_iff.1 hd).2.1⟩ h
    rw [e]
    clear h e
    refine lay_start ?_
    go_enter Tryz.func109, Tryz.ntmps109
    go_wp2_with fail
    refine region_bw (by kernel_rfl) (by kernel_rfl) ?_
    repeat (go_big_quiet_step ((first | (go_at_call 147; (with_reducible refine bqs (HR.out _) ?_); exact ⟨_, rfl⟩))))
    refine wpQuiet_nil ?_
    rintro w' ⟨d, rfl⟩
    rw [lay_bw]
    go_wp2_with fail
    go_ret
    exact ⟨rfl, lay_ex _ _⟩
theorem ref09_Valid (y m d : Int) (w : World) :
    Calls Tryz.prog 112 #[.agg #[.int .i64 y, .int .i64 m, .int .i64 d]] w fun e w' => e = .returned (.bool (dateB y m d)) ∧ ∃ d, w' = bw w d := by
  have ways : (decide (1 ≤ y) = true ∧ decide (y ≤ 9999) = true ∧ decide (1 ≤ m) = true ∧ decide (m ≤ 12) = true ∧ decide (1 ≤ d) = true ∧ dateB y m d = decide (d ≤ dysI y m) ∧ 0 ≤ y ∧ 1 ≤ m ∧ m ≤ 12) ∨
      (dateB y m d = false ∧ (decide (1 ≤ y) = false ∨ (decide (1 ≤ y) = true ∧ decide (y ≤ 9999) = false) ∨ (decide (1 ≤ y) = true ∧ decide (y ≤ 9999) = true ∧ decide (1 ≤ m) = false) ∨
        (decide (1 ≤ y) = true ∧ decide (y ≤ 9999) = true ∧ decide (1 ≤ m) = true ∧ decide (m ≤ 12) = false) ∨ (decide (1 ≤ y) = true ∧ decide (y ≤ 9999) = true ∧ decide (1 ≤ m) = true ∧ decide (m ≤ 12) = true ∧ decide (1 ≤ d) = false))) := by
    unfold dateB
    simp only [decide_eq_true_eq, decide_eq_false_iff_not, decide_eq_decide]
    omega
  rcases ways with ⟨t1, t2, t3, t4, t5, e, y0, m0, m1⟩ | ⟨e, ws⟩
  · have HD := Lib.hid (fun W => ref09_Days y m W y0 m0 m1)
    rw [e]
    clear e y0 m0 m1
    generalize dysI y m = D at *
    refine lay_start ?_
    go_enter Tryz.func112, Tryz.ntmps112
    go_wp2_with fail
    refine region_bw (by kernel_rfl) (by kernel_rfl) ?_
    repeat (go_big_quiet_step ((first | (go_at_call 151; exact bq (HD.out _) (fun d => ⟨d, rfl⟩)) | (go_at_call 151; exact bq (HD.out _) (fun d => lay_join _ _ _ d)))))
    refine wpQuiet_nil ?_
    rintro w' ⟨d, rfl⟩
    rw [lay_bw]
    go_wp2_with fail
    go_ret
    exact ⟨rfl, lay_ex _ _⟩
  · rw [e]
    clear e
    rcases ws with t1 | ⟨t1, t2⟩ | ⟨t1, t2, t3⟩ | ⟨t1, t2, t3, t4⟩ | ⟨t1, t2, t3, t4, t5⟩
    all_goals
      refine lay_start ?_
      go_enter Tryz.func112, Tryz.ntmps112
      go_wp2_with fail
      refine region_bw (by kernel_rfl) (by kernel_rfl) ?_
      repeat (go_big_quiet_step ((first | fail)))
      refine wpQuiet_nil ?_
      rintro w' ⟨d, rfl⟩
      rw [lay_bw]
      go_wp2_with fail
      go_ret
      exact ⟨rfl, lay_ex _ _⟩
theorem cal_Number (y m d : Int) (w : World) :
    Calls Tryz.prog 60 #[.agg #[.int .i64 y, .int .i64 m, .int .i64 d]] w fun e w' => e = .returned (.tuple #[.int .i64 (if dateB y m d = true then numI y m d else 0), .int .i64 (if dateB y m d = true then 0 else 1)]) ∧ ∃ d, w' = bw w d := by
  have HV := Lib.hid (fun W => cal_Valid y m d W)
  cases h : dateB y m d
  · rw [h] at HV
    rw [if_neg Bool.false_ne_true, if_neg Bool.false_ne_true]
    refine lay_start ?_
    go_enter Tryz.func60, Tryz.ntmps60
    go_wp2_with (go_at_call 109; refine (HV.out _).mono ?_; rintro e w' ⟨rfl, e1, rfl⟩)
    go_ret2
    exact ⟨rfl, lay_ex _ _⟩
  · have HN := Lib.hid (fun W => cal_number y m d W h)
    rw [h] at HV
    rw [if_pos rfl, if_pos rfl]
    generalize numI y m d = N at *
    clear h
    refine lay_start ?_
    go_enter Tryz.func60, Tryz.ntmps60
    go_wp2_with (first | (go_at_call 109; refine (HV.out _).mono ?_; rintro e w' ⟨rfl, e1, rfl⟩) | (go_at_call 110; refine (HN.out _).mono ?_; rintro e w' ⟨rfl, e2, rfl⟩))
    go_ret2
    exact ⟨rfl, lay_ex _ _⟩
end Go.Proofs.YtjfpgpipbooilaaGreat
/- Lists of numbers in a range: package page's and the reference's; valid tracks. -/
namespace Go.Proofs.YtjfpgpipbooilaaGreat
set_option maxHeartbeats 2000000
open Go.RowKit

def InL (l : List Int) (lo hi : Int) (k : Nat) : Prop := ∀ i, i < k → lo ≤ l.getD i 0 ∧ l.getD i 0 ≤ hi
noncomputable def inLB (l : List Int) (lo hi : Int) : Bool := @decide (InL l lo hi l.length) (Classical.propDecidable _)
theorem inLB_iff {l : List Int} {lo hi : Int} : inLB l lo hi = true ↔ InL l lo hi l.length := by unfold inLB; simp
theorem inLB_no {l : List Int} {lo hi : Int} (h : ¬ InL l lo hi l.length) : inLB l lo hi = false := by cases e : inLB l lo hi; rfl; exact absurd (inLB_iff.1 e) h
def outB (n lo hi : Int) : Bool := decide (n < lo ∨ hi < n)
theorem outB_iff {n lo hi : Int} : outB n lo hi = true ↔ n < lo ∨ hi < n := by simp [outB]
theorem page_within1 (n lo hi : Int) (b1 b2 : Nat) (w : World) (c1 : w.cell? ⟨b1, 0, none⟩ = some (.int .i64 lo)) (c2 : w.cell? ⟨b2, 0, none⟩ = some (.int .i64 hi)) :
    Calls Tryz.prog 185 #[.int .i64 n, .pointer (some ⟨b1, 0, none⟩), .pointer (some ⟨b2, 0, none⟩)] w fun e w' => e = .returned (.bool (outB n lo hi)) ∧ w' = w := by
  go_enter Tryz.func185, Tryz.ntmps185
  go_wp2
  all_goals go_ret
  all_goals exact ⟨ret_bool (by rw [Bool.eq_iff_iff]; simp [outB, *]; try omega), rfl⟩
def idxO (l : List Int) (lo hi : Int) : Nat → Nat → Int
  | _, 0 => -1
  | k, f + 1 => if outB (l.getD k 0) lo hi = true then k else idxO l lo hi (k + 1) f
theorem idxO_spec (l : List Int) (lo hi : Int) : ∀ f k, InL l lo hi k → k + f = l.length → decide (0 ≤ idxO l lo hi k f) = !inLB l lo hi
  | 0, k, h, e => by
    have : inLB l lo hi = true := inLB_iff.2 (by rw [← e]; exact h)
    rw [this]; rfl
  | f + 1, k, h, e => by
    unfold idxO
    split
    · rename_i ho
      have : inLB l lo hi = false := inLB_no fun hh => by have := hh k (by omega); have := outB_iff.1 ho; omega
      rw [this]
      simp
    · rename_i ho
      exact idxO_spec l lo hi f (k + 1) (fun i hi' => by
        by_cases e : i = k
        · subst e; rw [outB_iff] at ho; omega
        · exact h i (by omega)) (by omega)
theorem idxO_hit {l : List Int} {lo hi : Int} {k f : Nat} (h : outB (l.getD k 0) lo hi = true) : idxO l lo hi k (f + 1) = k := by unfold idxO; rw [if_pos h]
theorem idxO_miss {l : List Int} {lo hi : Int} {k f : Nat} (h : outB (l.getD k 0) lo hi = false) : idxO l lo hi k (f + 1) = idxO l lo hi (k + 1) f := by
  show (if _ then _ else _) = _
  rw [if_neg (by rw [h]; exact Bool.false_ne_true)]
theorem idxO_go {l : List Int} {lo hi : Int} {k m : Nat} (h : outB (l.getD k 0) lo hi = false) (hk : k < m) (e : idxO l lo hi 0 m = idxO l lo hi k (m - k)) : idxO l lo hi 0 m = idxO l lo hi (k + 1) (m - (k + 1)) := by
  rw [e, show m - k = m - (k + 1) + 1 by omega, idxO_miss h]
theorem idxO_got {l : List Int} {lo hi : Int} {k m : Nat} (h : outB (l.getD k 0) lo hi = true) (hk : k < m) (e : idxO l lo hi 0 m = idxO l lo hi k (m - k)) : (k : Int) = idxO l lo hi 0 m := by
  rw [e, show m - k = m - (k + 1) + 1 by omega, idxO_hit h]
theorem slices_IndexFunc (v : Value) (l : List Int) (lo hi : Int) (b1 b2 : Nat) (w : World) (hv : Lst w v l) (c1 : w.cell? ⟨b1, 0, none⟩ = some (.int .i64 lo)) (c2 : w.cell? ⟨b2, 0, none⟩ = some (.int .i64 hi)) :
    Calls Tryz.prog 215 #[v, .func (.func 185) #[] #[.pointer (some ⟨b1, 0, none⟩), .pointer (some ⟨b2, 0, none⟩)]] w fun e w' => e = .returned (.int .i64 (idxO l lo hi 0 l.length)) ∧ w' = w := by
  obtain ⟨a, cap, rfl, g1, -, k1⟩ := hv
  have W1 := Lib.hid (fun n => page_within1 n lo hi b1 b2 w c1 c2)
  clear c1 c2
  obtain ⟨m, hm⟩ : ∃ m, m = l.length := ⟨_, rfl⟩
  rw [← hm] at g1 k1
  rw [← hm]
  by_cases hz : m = 0
  · subst hz
    clear k1 hm
    go_enter Tryz.func215, Tryz.ntmps215
    go_wp2_with fail
    refine wp_loop_rounds 1 ?_
    rw [rounds_succ]
    go_wp2
    go_ret
    exact ⟨rfl, rfl⟩
  · obtain ⟨b, o, rfl, s1, r1⟩ := k1 (by rintro rfl; simp at hm; omega)
    have HR := Lib.hid r1
    clear r1 k1 hm
    go_enter Tryz.func215, Tryz.ntmps215
    go_wp2_with fail
    go_loop [8] (fun i => ∃ k : Nat, k ≤ m ∧ i = .int .i64 k ∧ idxO l lo hi 0 m = idxO l lo hi k (m - k)) (fun i => m - (intOf i).toNat)
    case atStart => exact ⟨0, Nat.zero_le _, rfl, rfl⟩
    case round =>
      obtain ⟨k, hk, rfl, hA⟩ := hrel
      have HA := Lib.hid hA
      clear hA
      by_cases hlt : k < m
      · have e1 := HR.out k hlt
        obtain ⟨x, hx⟩ : ∃ x, x = l.getD k 0 := ⟨_, rfl⟩
        rw [← hx] at e1
        cases ho : outB x lo hi
        · have HN := Lib.hid (idxO_go (by rw [← hx]; exact ho) hlt HA.out)
          clear hx
          go_wp2_with (go_at_call 185; refine (W1.out _).mono ?_; rintro e w' ⟨rfl, rfl⟩)
          go_round
          case rel => exact ⟨k + 1, by omega, by go_num, HN.out⟩
          case measure => simp [intOf]; omega
        · have HN := Lib.hid (idxO_got (by rw [← hx]; exact ho) hlt HA.out)
          clear hx
          go_wp2_with (go_at_call 185; refine (W1.out _).mono ?_; rintro e w' ⟨rfl, rfl⟩)
          go_ret
          exact ⟨ret_int HN.out, rfl⟩
      · obtain rfl : k = m := by omega
        have HN : Hid ((-1 : Int) = idxO l lo hi 0 k) := Lib.hid (by rw [HA.out, Nat.sub_self]; rfl)
        go_wp2
        go_ret
        exact ⟨ret_int HN.out, rfl⟩
theorem slices_ContainsFunc (v : Value) (l : List Int) (lo hi : Int) (b1 b2 : Nat) (w : World) (hv : Lst w v l) (c1 : w.cell? ⟨b1, 0, none⟩ = some (.int .i64 lo)) (c2 : w.cell? ⟨b2, 0, none⟩ = some (.int .i64 hi)) :
    Calls Tryz.prog 184 #[v, .func (.func 185) #[] #[.pointer (some ⟨b1, 0, none⟩), .pointer (some ⟨b2, 0, none⟩)]] w fun e w' => e = .returned (.bool (!inLB l lo hi)) ∧ w' = w := by
  have W1 := slices_IndexFunc v l lo hi b1 b2 w hv c1 c2
  have HS := Lib.hid (idxO_spec l lo hi l.length 0 (fun i hi => absurd hi (Nat.not_lt_zero i)) (by omega))
  generalize idxO l lo hi 0 l.length = x at *
  have HW := Lib.hid W1
  clear W1 hv c1 c2
  go_enter Tryz.func184, Tryz.ntmps184
  go_wp2_with (go_at_call 215; refine HW.out.mono ?_; rintro e w' ⟨rfl, rfl⟩)
  go_ret
  exact ⟨ret_bool HS.out, rfl⟩
theorem page_within (v : Value) (l : List Int) (lo hi : Int) (w : World) (hv : Lst w v l) :
    Calls Tryz.prog 142 #[v, .int .i64 lo, .int .i64 hi] w fun e w' => e = .returned (.bool (inLB l lo hi)) ∧ ∃ d, w' = bw w d := by
  have HC := Lib.hid (fun L b1 b2 c1 c2 => slices_ContainsFunc v l lo hi b1 b2 (lay w L) (hv.lay L) c1 c2)
  clear hv
  refine lay_start ?_
  go_enter Tryz.func142, Tryz.ntmps142
  go_wp2_with (go_at_call 184; refine (HC.out _ _ _ (by go_simp) (by go_simp)).mono ?_; rintro e w' ⟨rfl, rfl⟩)
  go_ret
  exact ⟨ret_bool (by simp), lay_ex _ _⟩
structure TrkOk (t : TrkV) : Prop where
  nm : nameB t.s = true
  lg : t.g.length = 25
  ld : t.d.length = 25
  bg : inLB t.g 0 215999 = true
  bd : inLB t.d (-54000) 54000 = true
  bp : inLB [t.p] 0 200 = true
  bq : inLB [t.q] 0 620 = true
  br : inLB [t.r] 0 1000 = true
noncomputable def trkB (t : TrkV) : Bool := nameB t.s && ((t.g.length : Int) == 25) && ((t.d.length : Int) == 25) && inLB t.g 0 215999 && inLB t.d (-54000) 54000 && inLB [t.p] 0 200 && inLB [t.q] 0 620 && inLB [t.r] 0 1000
theorem trkB_iff {t : TrkV} : trkB t = true ↔ TrkOk t := by
  unfold trkB
  simp only [Bool.and_eq_true, beq_iff_eq]
  constructor
  · rintro ⟨⟨⟨⟨⟨⟨⟨h1, h2⟩, h3⟩, h4⟩, h5⟩, h6⟩, h7⟩, h8⟩; exact ⟨h1, by omega, by omega, h4, h5, h6, h7, h8⟩
  · rintro ⟨h1, h2, h3, h4, h5, h6, h7, h8⟩; exact ⟨⟨⟨⟨⟨⟨⟨h1, by omega⟩, by omega⟩, h4⟩, h5⟩, h6⟩, h7⟩, h8⟩
theorem lst_one (w : World) (L : List (Obj ⊕ Ext)) (p : Int) (t : TypeId) (hp : (Lit.int .i64 p).wf = true) : Lst (lay w (.inl (.cells #[.int .i64 p] t) :: L)) (.slice (some ⟨posn w (shp L), 0, none⟩) 1 1) [p] := by
  refine ⟨_, 1, rfl, by simp, fun i hi => ?_, fun _ => ⟨posn w (shp L), 0, rfl, ?_, fun i hi => ?_⟩⟩
  · obtain rfl : i = 0 := by have : i < 1 := hi; omega
    exact hp
  · rw [lay_size]; simp only [shp, posn, List.sum_cons]; omega
  · obtain rfl : i = 0 := by have : i < 1 := hi; omega
    have hl : (shp L).length < (Sum.inl (.cells #[.int .i64 p] t) :: L : List (Obj ⊕ Ext)).length := by rw [shp_len]; simp
    have e0 : (Sum.inl (.cells #[.int .i64 p] t) :: L : List (Obj ⊕ Ext)).length - (shp L).length = 1 := by rw [shp_len]; simp
    rw [lay_cell _ _ _ _ hl (by rw [e0]; rfl) (by rw [e0]; rfl), e0]
    rfl
set_option maxRecDepth 100000 in
theorem page_validTrack (v : Value) (t : TrkV) (w : World) (hv : Trk w v t) :
    Calls Tryz.prog 102 #[v] w fun e w' => e = .returned (.bool (trkB t)) ∧ ∃ d, w' = bw w d := by
  obtain ⟨vg, vd, rfl, hs, hg, hd, hp, hq, hr⟩ := hv
  obtain ⟨s, gs, ds, p, q, r⟩ := t
  simp only at hs hg hd hp hq hr ⊢
  have HG := Lib.hid hg
  have HD := Lib.hid hd
  obtain ⟨ag, cg, rfl, g1, -, -⟩ := hg
  obtain ⟨ad, cd, rfl, d1, -, -⟩ := hd
  have HP := Lib.hid hp
  have HQ := Lib.hid hq
  have HR := Lib.hid hr
  clear hp hq hr
  refine lay_start ?_
  go_enter Tryz.func102, Tryz.ntmps102
  go_wp2_with (first | (go_at_call 103; refine (dec_IsName _ _ hs).mono ?_; rintro e w' ⟨rfl, rfl⟩) | (go_at_call_of 142 (Value.int .i64 215999); refine (page_within _ gs _ _ _ (HG.out.lay _)).mono ?_; rintro e w' ⟨rfl, d, rfl⟩) | (go_at_call_of 142 (Value.int .i64 54000); refine (page_within _ ds _ _ _ (HD.out.lay _)).mono ?_; rintro e w' ⟨rfl, d, rfl⟩) | (go_at_call_of 142 (Value.int .i64 200); refine (page_within _ [p] _ _ _ (by exact lst_one _ _ _ _ HP.out)).mono ?_; rintro e w' ⟨rfl, d, rfl⟩) | (go_at_call_of 142 (Value.int .i64 620); refine (page_within _ [q] _ _ _ (by exact lst_one _ _ _ _ HQ.out)).mono ?_; rintro e w' ⟨rfl, d, rfl⟩) | (go_at_call_of 142 (Value.int .i64 1000); refine (page_within _ [r] _ _ _ (by exact lst_one _ _ _ _ HR.out)).mono ?_; rintro e w' ⟨rfl, d, rfl⟩))
  all_goals go_ret
  all_goals exact ⟨ret_bool (by simp [trkB, *]), lay_ex _ _⟩
end Go.Proofs.YtjfpgpipbooilaaGreat
/- The reference's valid tracks. -/
namespace Go.Proofs.YtjfpgpipbooilaaGreat
set_option maxHeartbeats 2000000
open Go.RowKit

theorem out_cases (x lo hi : Int) : (decide (x < lo) = true ∧ outB x lo hi = true) ∨ (decide (x < lo) = false ∧ decide (hi < x) = true ∧ outB x lo hi = true) ∨ (decide (x < lo) = false ∧ decide (hi < x) = false ∧ outB x lo hi = false) := by
  unfold outB
  simp only [decide_eq_true_eq, decide_eq_false_iff_not]
  omega
theorem ref13_in (v : Value) (l : List Int) (lo hi : Int) (w : World) (hv : Lst w v l) :
    Calls Tryz.prog 113 #[v, .int .i64 lo, .int .i64 hi] w fun e w' => e = .returned (.bool (inLB l lo hi)) ∧ ∃ d, w' = bw w d := by
  obtain ⟨a, cap, rfl, g1, -, k1⟩ := hv
  obtain ⟨m, hm⟩ : ∃ m, m = l.length := ⟨_, rfl⟩
  rw [← hm] at g1 k1
  rw [← hm]
  have HM := Lib.hid hm
  by_cases hz : m = 0
  · have HN : Hid (true = inLB l lo hi) := Lib.hid (inLB_iff.2 (by rw [← hm, hz]; exact fun i hi => absurd hi (Nat.not_lt_zero i))).symm
    subst hz
    clear k1 hm
    refine lay_start ?_
    go_enter Tryz.func113, Tryz.ntmps113
    go_wp2_with fail
    refine wp_loop_rounds 1 ?_
    rw [rounds_succ]
    go_wp2
    go_ret
    exact ⟨ret_bool HN.out, lay_ex _ _⟩
  · obtain ⟨b, o, rfl, s1, r1⟩ := k1 (by rintro rfl; simp at hm; omega)
    have HR := Lib.hid r1
    clear r1 k1 hm
    refine lay_start ?_
    go_enter Tryz.func113, Tryz.ntmps113
    go_wp2_with fail
    go_loopw [7] (fun i wr => ∃ (k : Nat) (e : Ext), k ≤ m ∧ i = .int .i64 k ∧ wr = lay w [.inr e] ∧ InL l lo hi k) (fun i _ => m - (intOf i).toNat)
    case atStart => exact ⟨0, _, Nat.zero_le _, rfl, Classical.choose_spec (lay_fold w [] _), fun i hi => absurd hi (Nat.not_lt_zero i)⟩
    case round =>
      obtain ⟨k, e, hk, rfl, rfl, hA⟩ := hrel
      have HA := Lib.hid hA
      clear hA
      by_cases hlt : k < m
      · have e1 := HR.out k hlt
        obtain ⟨x, hx⟩ : ∃ x, x = l.getD k 0 := ⟨_, rfl⟩
        rw [← hx] at e1
        have HX := Lib.hid hx
        clear hx
        rcases out_cases x lo hi with ⟨t1, t2⟩ | ⟨t1, t3, t2⟩ | ⟨t1, t3, t2⟩
        · have HN : Hid (false = inLB l lo hi) := Lib.hid (inLB_no fun h => by have := h k (by rw [← HM.out]; exact hlt); rw [← HX.out] at this; have := outB_iff.1 t2; omega).symm
          clear t2
          go_wp2
          go_ret
          exact ⟨ret_bool HN.out, lay_ex _ _⟩
        · have HN : Hid (false = inLB l lo hi) := Lib.hid (inLB_no fun h => by have := h k (by rw [← HM.out]; exact hlt); rw [← HX.out] at this; have := outB_iff.1 t2; omega).symm
          clear t2
          go_wp2
          go_ret
          exact ⟨ret_bool HN.out, lay_ex _ _⟩
        · have HN := Lib.hid t2
          clear t2
          go_wp2
          go_roundw
          case rel => exact ⟨k + 1, _, by omega, by go_num, Classical.choose_spec (lay_all w _), fun i hi => by
            by_cases e : i = k
            · subst e; rw [← HX.out]; have t2 := HN.out; unfold outB at t2; simp only [decide_eq_false_iff_not] at t2; omega
            · exact HA.out i (by omega)⟩
          case measure => simp [intOf]; omega
      · obtain rfl : k = m := by omega
        have HN : Hid (true = inLB l lo hi) := Lib.hid (inLB_iff.2 (by rw [← HM.out]; exact HA.out)).symm
        go_wp2
        go_ret
        exact ⟨ret_bool HN.out, lay_ex _ _⟩
set_option maxRecDepth 100000 in
theorem ref13_ValidTrack (v : Value) (t : TrkV) (w : World) (hv : Trk w v t) :
    Calls Tryz.prog 114 #[v] w fun e w' => e = .returned (.bool (trkB t)) ∧ ∃ d, w' = bw w d := by
  obtain ⟨vg, vd, rfl, hs, hg, hd, hp, hq, hr⟩ := hv
  obtain ⟨s, gs, ds, p, q, r⟩ := t
  simp only at hs hg hd hp hq hr ⊢
  have HG := Lib.hid hg
  have HD := Lib.hid hd
  obtain ⟨ag, cg, rfl, g1, -, -⟩ := hg
  obtain ⟨ad, cd, rfl, d1, -, -⟩ := hd
  have HP := Lib.hid hp
  have HQ := Lib.hid hq
  have HR := Lib.hid hr
  clear hp hq hr
  refine lay_start ?_
  go_enter Tryz.func114, Tryz.ntmps114
  go_wp2_with (first | (go_at_call 116; refine (ref01_IsName _ _ hs).mono ?_; rintro e w' ⟨rfl, rfl⟩) | (go_at_call_of 113 (Value.int .i64 215999); refine (ref13_in _ gs _ _ _ (HG.out.lay _)).mono ?_; rintro e w' ⟨rfl, d, rfl⟩) | (go_at_call_of 113 (Value.int .i64 54000); refine (ref13_in _ ds _ _ _ (HD.out.lay _)).mono ?_; rintro e w' ⟨rfl, d, rfl⟩) | (go_at_call_of 113 (Value.int .i64 200); refine (ref13_in _ [p] _ _ _ (by exact lst_one _ _ _ _ HP.out)).mono ?_; rintro e w' ⟨rfl, d, rfl⟩) | (go_at_call_of 113 (Value.int .i64 620); refine (ref13_in _ [q] _ _ _ (by exact lst_one _ _ _ _ HQ.out)).mono ?_; rintro e w' ⟨rfl, d, rfl⟩) | (go_at_call_of 113 (Value.int .i64 1000); refine (ref13_in _ [r] _ _ _ (by exact lst_one _ _ _ _ HR.out)).mono ?_; rintro e w' ⟨rfl, d, rfl⟩))
  all_goals go_ret
  all_goals exact ⟨ret_bool (by simp [trkB, *]), lay_ex _ _⟩
end Go.Proofs.YtjfpgpipbooilaaGreat
/- Stars: their numbers, the index of a name. -/
namespace Go.Proofs.YtjfpgpipbooilaaGreat
set_option maxHeartbeats 1000000
open Go.RowKit Go.Shelf

def numB (a b c : Int) : Bool := decide ((0 ≤ a ∧ a ≤ 215999) ∧ (-54000 ≤ b ∧ b ≤ 54000) ∧ -20 ≤ c ∧ c ≤ 150)
theorem cat_numbers (s : ByteArray) (a b c : Int) (w : World) :
    Calls Tryz.prog 104 #[.agg #[.string s, .int .i64 a, .int .i64 b, .int .i64 c]] w fun e w' => e = .returned (.bool (numB a b c)) ∧ ∃ d, w' = bw w d := by
  refine lay_start ?_
  go_enter Tryz.func104, Tryz.ntmps104
  go_wp2
  all_goals go_ret
  all_goals exact ⟨ret_bool (by first | (simp [numB, *]; done) | (rw [Bool.eq_iff_iff]; simp [numB, *]; done) | (rw [Bool.eq_iff_iff]; simp [numB]; omega)), lay_ex _ _⟩
theorem ref16_Star (s : ByteArray) (a b c : Int) (w : World) :
    Calls Tryz.prog 117 #[.agg #[.string s, .int .i64 a, .int .i64 b, .int .i64 c]] w fun e w' => e = .returned (.int .i64 (if numB a b c = true then 0 else 2)) ∧ ∃ d, w' = bw w d := by
  cases h : numB a b c
  · have hc : a < 0 ∨ (¬ a < 0 ∧ 215999 < a) ∨ (¬ a < 0 ∧ ¬ 215999 < a ∧ b < -54000) ∨ (¬ a < 0 ∧ ¬ 215999 < a ∧ ¬ b < -54000 ∧ 54000 < b) ∨ (¬ a < 0 ∧ ¬ 215999 < a ∧ ¬ b < -54000 ∧ ¬ 54000 < b ∧ c < -20) ∨ (¬ a < 0 ∧ ¬ 215999 < a ∧ ¬ b < -54000 ∧ ¬ 54000 < b ∧ ¬ c < -20 ∧ 150 < c) := by
      simp only [numB, decide_eq_false_iff_not] at h
      omega
    rw [if_neg (by decide)]
    clear h
    rcases hc with h1 | ⟨h1, h2⟩ | ⟨h1, h2, h3⟩ | ⟨h1, h2, h3, h4⟩ | ⟨h1, h2, h3, h4, h5⟩ | ⟨h1, h2, h3, h4, h5, h6⟩
    all_goals
      refine lay_start ?_
      go_enter Tryz.func117, Tryz.ntmps117
      go_wp2
      go_ret
      exact ⟨rfl, lay_ex _ _⟩
  · obtain ⟨⟨h1, h2⟩, ⟨h3, h4⟩, h5, h6⟩ : (0 ≤ a ∧ a ≤ 215999) ∧ (-54000 ≤ b ∧ b ≤ 54000) ∧ -20 ≤ c ∧ c ≤ 150 := by simpa [numB] using h
    rw [if_pos rfl]
    clear h
    refine lay_start ?_
    go_enter Tryz.func117, Tryz.ntmps117
    go_wp2
    go_ret
    exact ⟨rfl, lay_ex _ _⟩
def nmB (a b : ByteArray) : Bool := a.toList == b.toList
theorem cat_index1 (x : StarV) (s : ByteArray) (b : Nat) (w : World) (hb : b < w.heap.size) (hc : w.cell? ⟨b, 0, none⟩ = some (.string s)) :
    Calls Tryz.prog 146 #[.agg #[.string x.s, .int .i64 x.sha, .int .i64 x.dec, .int .i64 x.mag], .pointer (some ⟨b, 0, none⟩)] w fun e w' => e = .returned (.bool (nmB x.s s)) ∧ ∃ d, w' = bw w d := by
  obtain ⟨xs, x1, x2, x3⟩ := x
  dsimp only
  refine lay_start ?_
  go_enter Tryz.func146, Tryz.ntmps146
  go_wp2
  go_ret
  exact ⟨rfl, lay_ex _ _⟩
def fndS (l : List StarV) (s : ByteArray) : Int := idxR (fun x => nmB x.s s) l 0
theorem cat_index (v : Value) (l : List StarV) (s : ByteArray) (w : World) (hv : SlG stR w v l) :
    Calls Tryz.prog 105 #[v, .string s] w (IdxPost w (fndS l s)) := by
  have eI : ∀ args w, (callFunc 146 args).run Tryz.prog w = .ok (.enter 146 args) w := enters_of Tryz.func146 (by kernel_rfl) rfl
  have H := Lib.hid (st_IndexFunc 146 [.pointer (some ⟨posn w [], 0, none⟩)] (fun x => nmB x.s s) v l (lay w [.inl (.cells #[.string s] 9 (0, 0))]) (hv.lay _) eI (fun x _ d =>
    cat_index1 x s (posn w []) (lay w [.inr d, .inl (.cells #[.string s] 9 (0, 0))]) (by simp only [lay_size, shp, posn, List.sum_cons, List.sum_nil, Ext.n]; omega) (by simp [go_sem]) |>.mono fun e w' ⟨h1, d2, h2⟩ => ⟨h1, _, h2.trans (bw_bw _ _ _)⟩))
  obtain ⟨a, c, rfl⟩ := hv.form
  unfold fndS
  generalize idxR (fun x => nmB x.s s) l 0 = I at *
  generalize l.length = m at *
  clear eI hv
  refine lay_start ?_
  go_enter Tryz.func105, Tryz.ntmps105
  go_wp2_with fail
  refine H.out.mono ?_
  rintro e w' ⟨rfl, d1, rfl⟩
  rw [lay_bw]
  go_wp2
  go_ret
  exact ⟨rfl, lay_ex _ _⟩
theorem ref16_Find (v : Value) (l : List StarV) (s : ByteArray) (w : World) (hv : SlG stR w v l) :
    Calls Tryz.prog 70 #[v, .string s] w (IdxPost w (fndS l s)) := by
  unfold fndS
  obtain ⟨p, hp⟩ : ∃ p : StarV → Bool, (fun x => nmB x.s s) = p := ⟨_, rfl⟩
  rw [hp]
  have HPn : Hid (∀ x : StarV, p x = (x.s.toList == s.toList)) := Lib.hid (fun x => by rw [← hp]; rfl)
  clear hp
  by_cases hz : l = []
  · subst hz
    obtain ⟨a, cap, rfl⟩ := hv.form
    refine lay_start ?_
    go_enter Tryz.func70, Tryz.ntmps70
    go_wp2_with fail
    refine wp_loop_rounds 1 ?_
    rw [rounds_succ]
    go_wp2
    go_ret
    exact ⟨rfl, lay_ex _ _⟩
  · obtain ⟨b, o, cap, rfl, hc, hb, hr⟩ := hv.open (List.length_pos_iff.2 hz)
    obtain ⟨m, hm⟩ : ∃ m, l.length = m := ⟨_, rfl⟩
    have HM := Lib.hid hm
    rw [hm] at hc ⊢
    have HR : Hid (∀ i x, l[i]? = some x → w.cell? ⟨b, o + i * 4, none⟩ = some (.string x.s)) := Lib.hid (fun i x hx => hr i x hx 0 _ rfl)
    clear hz hm hr hv
    refine lay_start ?_
    go_enter Tryz.func70, Tryz.ntmps70
    go_wp2_with fail
    go_loopw [5] (fun i wr => ∃ (k : Nat) (d : Ext), k ≤ m ∧ i = .int .i64 k ∧ wr = lay w [.inr d] ∧ idxR p l 0 = idxR p (l.drop k) k) (fun i _ => m - (intOf i).toNat)
    case atStart => exact ⟨0, noExt _, Nat.zero_le _, rfl, (bw_noExt _).symm, rfl⟩
    case round =>
      obtain ⟨k, d, hk, rfl, rfl, hA⟩ := hrel
      have HA := Lib.hid hA
      clear hA
      by_cases hlt : k < m
      · obtain ⟨x, hx⟩ : ∃ x, l[k]? = some x := ⟨_, List.getElem?_eq_getElem (by rw [HM.out]; exact hlt)⟩
        have e0 := HR.out k x hx
        have x1 : (k : Int) < (m : Int) := by omega
        have x0 : (0 : Int) ≤ (k : Int) := by omega
        have hpx := HPn.out x
        cases ho : p x
        · have HN := Lib.hid (idxR_miss hx ho HA.out)
          rw [ho] at hpx
          have t1 := hpx.symm
          clear ho hx hpx
          generalize x.s = xs at *
          go_wp2_with fail
          go_roundw
          case rel => exact ⟨k + 1, d, by omega, by go_num, rfl, HN.out⟩
          case measure => simp [intOf]; omega
        · have HN := Lib.hid (idxR_got hx ho HA.out)
          rw [ho] at hpx
          have t1 := hpx.symm
          clear ho hx hpx
          generalize x.s = xs at *
          go_wp2_with fail
          go_ret
          exact ⟨ret_int HN.out, lay_ex _ _⟩
      · have HN := Lib.hid (idxR_end (k := k) (by rw [HM.out]; omega) HA.out)
        have x1 : ¬ (k : Int) < (m : Int) := by omega
        go_wp2
        go_ret
        exact ⟨ret_int HN.out, lay_ex _ _⟩
end Go.Proofs.YtjfpgpipbooilaaGreat

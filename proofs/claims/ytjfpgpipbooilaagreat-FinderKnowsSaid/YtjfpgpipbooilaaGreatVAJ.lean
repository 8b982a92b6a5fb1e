/- Contracts and plain laws, several texts in one: HvP; AsW1; AsW2; Mer1 -/
import Derived.Test.YtjfpgpipbooilaaGreatProg
import Derived.WalkKit
import Derived.WalkSpells
import Derived.WalkLawsBesides
import Derived.Lib.Hide
import Derived.BigQuiet
import Derived.Test.YtjfpgpipbooilaaGreatVAA
import Derived.Test.YtjfpgpipbooilaaGreatVAB
import Derived.Test.YtjfpgpipbooilaaGreatVAD
import Derived.Test.YtjfpgpipbooilaaGreatVAI
/- Haversines: plain laws, no walk. -/
namespace Go.Proofs.YtjfpgpipbooilaaGreat

end Go.Proofs.YtjfpgpipbooilaaGreat
/- The program's arcsines. -/
namespace Go.Proofs.YtjfpgpipbooilaaGreat
set_option maxRecDepth 100000
open Go.RowKit

theorem tg_Below (n v : Int) (w : World) :
    Calls Tryz.prog 207 #[.int .i64 n, .int .i64 v] w fun e w' => e = .returned (.int .i64 (belI n v)) ∧ ∃ d, w' = bw w d := by
  have HB := Lib.hid (fun W => tg_bounds n W)
  have h1 := (bb_le n).1
  have h2 := bHi_one n
  unfold belI
  generalize bLo n = lo at *
  generalize bHi n = hi at *
  by_cases c1 : hi ≤ v
  · by_cases c2 : lo < v
    · rw [if_pos ⟨c1, c2⟩]
      have c3 : v ≥ hi := c1
      clear h1 h2
      refine lay_start ?_
      go_enter Tryz.func207, Tryz.ntmps207
      go_wp2_with (go_at_call 179; refine (HB.out _).mono ?_; rintro e w' ⟨rfl, d1, rfl⟩; rw [lay_bw])
      go_ret
      exact ⟨rfl, lay_ex _ _⟩
    · rw [if_neg (fun h => c2 h.2), if_neg (by omega), if_pos (by omega)]
      obtain rfl : v = lo := by omega
      have c4 : ¬ v < hi := by omega
      have c5 : (v == v) = true := beq_iff_eq.2 rfl
      clear h1 h2
      refine lay_start ?_
      go_enter Tryz.func207, Tryz.ntmps207
      go_wp2_with (go_at_call 179; refine (HB.out _).mono ?_; rintro e w' ⟨rfl, d1, rfl⟩; rw [lay_bw])
      go_ret
      exact ⟨rfl, lay_ex _ _⟩
  · by_cases c2 : v ≤ lo
    · rw [if_neg (fun h => c1 h.1), if_pos ⟨c2, by omega⟩]
      have c3 : v < hi := by omega
      clear h1 h2
      refine lay_start ?_
      go_enter Tryz.func207, Tryz.ntmps207
      go_wp2_with (go_at_call 179; refine (HB.out _).mono ?_; rintro e w' ⟨rfl, d1, rfl⟩; rw [lay_bw])
      go_ret
      exact ⟨rfl, lay_ex _ _⟩
    · exact False.elim (by omega)
set_option maxHeartbeats 1000000 in
theorem ar_asin (v : Int) (hv : -1073741824 ≤ v) (w : World) :
    Calls Tryz.prog 177 #[.int .i64 v] w fun e w' => e = .returned (.int .i64 (asnI v)) ∧ ∃ d, w' = bw w d := by
  have HB := Lib.hid (fun n W => tg_Below n v W)
  obtain ⟨R, hR⟩ : ∃ R, asnI v = R := ⟨_, rfl⟩
  have HR : Hid (∀ r, IsAsn v r → r = R) := Lib.hid fun r h => by rw [← hR]; exact (asnI_eq h).symm
  rw [hR]
  have HV := Lib.hid hv
  clear hR hv
  refine lay_start ?_
  go_enter Tryz.func177, Tryz.ntmps177
  go_wp2_with fail
  go_loopw [3, 4] (fun v3 v4 wr => ∃ (l h : Int) (dd : Ext), v3 = .int .i64 l ∧ v4 = .int .i64 h ∧ wr = lay w [.inr dd] ∧ -5400000 ≤ l ∧ l < h ∧ h ≤ 5400001 ∧ bHi l ≤ v ∧ (h = 5400001 ∨ v < bHi h)) (fun v3 v4 _ => (intOf v4 - intOf v3).toNat)
  case atStart => exact ⟨-5400000, 5400001, noExt _, rfl, rfl, (bw_noExt _).symm, by decide, by decide, by decide, by rw [b_bot]; exact HV.out, .inl rfl⟩
  case round =>
    obtain ⟨l, h, dd, rfl, rfl, rfl, hl, hlh, hh, hA, hB⟩ := hrel
    have HA := Lib.hid hA
    have HB2 := Lib.hid hB
    clear hA hB
    have k1 : IntKind.i64.wrap (h - l) = h - l := IntWalk.i64_in _ (by omega)
    by_cases c : 1 < h - l
    · obtain ⟨X, hX⟩ : ∃ X, l + h = X := ⟨_, rfl⟩
      obtain ⟨m, hm⟩ : ∃ m, X / 2 = m := ⟨_, rfl⟩
      have k2 : IntKind.i64.wrap (l + h) = X := by rw [hX]; exact IntWalk.i64_in _ (by omega)
      have hml : l < m ∧ m < h := by omega
      have HLH := Lib.hid (And.intro hl (And.intro hlh (And.intro hh hml)))
      have HI := Lib.hid (belI_iff m v)
      have HBm := Lib.hid (fun W => HB.out m W)
      clear hX hl hlh hh hml
      by_cases cb : belI m v ≤ 0
      · have HLe := Lib.hid (HI.out.1 cb)
        generalize belI m v = r at *
        go_wp2_with (go_at_call 207; refine (HBm.out _).mono ?_; rintro e w' ⟨rfl, d1, rfl⟩; rw [lay_bw])
        obtain ⟨g1, g2, g3, g4, g5⟩ := HLH.out
        obtain ⟨de, hde⟩ := lay_all w [.inr d1, .inr dd]
        exact ⟨⟨_, _, de, rfl, rfl, hde, by omega, by omega, g3, HLe.out, HB2.out⟩, by simp only [intOf]; omega⟩
      · have HLe := Lib.hid (fun h' => cb (HI.out.2 h'))
        generalize belI m v = r at *
        go_wp2_with (go_at_call 207; refine (HBm.out _).mono ?_; rintro e w' ⟨rfl, d1, rfl⟩; rw [lay_bw])
        obtain ⟨g1, g2, g3, g4, g5⟩ := HLH.out
        obtain ⟨de, hde⟩ := lay_all w [.inr d1, .inr dd]
        have hlt : v < bHi m := Int.not_le.1 HLe.out
        exact ⟨⟨_, _, de, rfl, rfl, hde, g1, by omega, by omega, HA.out, .inr hlt⟩, by simp only [intOf]; omega⟩
    · have hR : l = R := by
        refine HR.out l ⟨hl, by omega, HA.out, ?_⟩
        have hhl : h = l + 1 := by omega
        subst hhl
        rcases HB2.out with h1 | h1
        · left; omega
        · right; exact h1
      clear hl hlh hh HA HB2 HR
      subst hR
      go_wp2_with fail
      go_ret
      exact ⟨rfl, lay_ex _ _⟩
end Go.Proofs.YtjfpgpipbooilaaGreat
/- arctrig: part, Asin, Acos, Ahav. -/
namespace Go.Proofs.YtjfpgpipbooilaaGreat
set_option maxRecDepth 100000
open Go.RowKit

theorem asE_at (lo hi : Int) : asE lo hi = if fxB lo hi = false then 1 else if mn hi 1073741824 < mx lo (-1073741824) then 2 else 0 := by unfold asE fxB; rfl
theorem ar_part (a0 a1 lo hi : Int) (w : World) :
    Calls Tryz.prog 176 #[(.agg #[.int .i64 (a0), .int .i64 (a1)]), .int .i64 lo, .int .i64 hi] w fun e w' => e = .returned (.tuple #[(.agg #[.int .i64 (mx a0 lo), .int .i64 (mn a1 hi)]), .bool (decide (mx a0 lo ≤ mn a1 hi))]) ∧ ∃ d, w' = bw w d := by
  refine lay_start ?_
  go_enter Tryz.func176, Tryz.ntmps176
  go_wp2_with fail
  go_region
  go_wp2_with fail
  exact bodyPost_ret (v := .tuple #[(.agg #[.int .i64 (mx a0 lo), .int .i64 (mn a1 hi)]), .bool (decide (mx a0 lo ≤ mn a1 hi))]) (by simp [results, Tryz.results176, go_sem]) rfl ⟨rfl, by rw [bw_drewExt, lay_bw]; exact lay_ex _ _⟩
theorem ar_Asin (lo hi : Int) (w : World) :
    Calls Tryz.prog 135 #[(.agg #[.int .i64 (lo), .int .i64 (hi)])] w fun e w' => e = .returned (.tuple #[(.agg #[.int .i64 (asL lo hi), .int .i64 (asH lo hi)]), .int .i64 (asE lo hi)]) ∧ ∃ d, w' = bw w d := by
  have HV := Lib.hid (fun W => fx_ValidG lo hi W)
  have HP := Lib.hid (fun W => ar_part lo hi (-1073741824) 1073741824 W)
  unfold asL asH
  rw [asE_at]
  cases h : fxB lo hi
  · rw [h] at HV
    clear h HP
    rw [if_pos rfl, if_neg (show ¬ ((1 : Int) = 0) by decide), if_neg (show ¬ ((1 : Int) = 0) by decide)]
    refine lay_start ?_
    go_enter Tryz.func135, Tryz.ntmps135
    go_wp2_with (go_at_call 97; refine (HV.out _).mono ?_; rintro e w' ⟨rfl, d, rfl⟩)
    exact bodyPost_ret (v := .tuple #[(.agg #[.int .i64 (0), .int .i64 (0)]), .int .i64 1]) (by simp [results, Tryz.results135, go_sem]) rfl ⟨rfl, lay_ex _ _⟩
  · rw [h] at HV
    have hb := fxB_iff.1 h
    have hx : -1073741824 ≤ mx lo (-1073741824) := by rw [mx_eq]; omega
    have hn : mn hi 1073741824 ≤ 1073741824 := by rw [mn_eq]; omega
    have hn2 : -2147483648 ≤ mn hi 1073741824 := by rw [mn_eq]; omega
    have hd : (mn hi 1073741824 < mx lo (-1073741824)) ∨ mx lo (-1073741824) ≤ mn hi 1073741824 := by omega
    have H1 := Lib.hid (fun W => ar_asin (mx lo (-1073741824)) hx W)
    have H2 := Lib.hid (fun W => ar_asin (-(mn hi 1073741824)) (by omega) W)
    have i1 := asnI_in (v := mx lo (-1073741824)) hx
    have i2 := asnI_in (v := -(mn hi 1073741824)) (by omega)
    clear h
    generalize mx lo (-1073741824) = x at *
    generalize mn hi 1073741824 = y at *
    generalize asnI x = u at *
    obtain ⟨y', hy'⟩ : ∃ y', -y = y' := ⟨_, rfl⟩
    have ky : IntKind.i64.wrap (-y) = y' := by rw [hy']; exact IntWalk.i64_in _ (by omega)
    rw [hy'] at H2 i2
    rw [hy']
    generalize asnI y' = v at *
    have kv : IntKind.i64.wrap (-v) = -v := IntWalk.i64_in _ (by omega)
    clear hb hx hn hn2 i1 i2 hy'
    rcases hd with hd | hd
    · rw [show decide (x ≤ y) = false from decide_eq_false (by omega)] at HP
      rw [if_neg (show ¬ (true = false) by decide), if_pos hd, if_neg (show ¬ ((2 : Int) = 0) by decide), if_neg (show ¬ ((2 : Int) = 0) by decide)]
      refine lay_start ?_
      go_enter Tryz.func135, Tryz.ntmps135
      go_wp2_with (first | (go_at_call 97; refine (HV.out _).mono ?_; rintro e w' ⟨rfl, d, rfl⟩) | (go_at_call 176; refine (HP.out _).mono ?_; rintro e w' ⟨rfl, d2, rfl⟩))
      exact bodyPost_ret (v := .tuple #[(.agg #[.int .i64 (0), .int .i64 (0)]), .int .i64 2]) (by simp [results, Tryz.results135, go_sem]) rfl ⟨rfl, lay_ex _ _⟩
    · rw [show decide (x ≤ y) = true from decide_eq_true (by omega)] at HP
      rw [if_neg (show ¬ (true = false) by decide), if_neg (show ¬ (y < x) by omega), if_pos rfl, if_pos rfl]
      refine lay_start ?_
      go_enter Tryz.func135, Tryz.ntmps135
      go_wp2_with (first | (go_at_call 97; refine (HV.out _).mono ?_; rintro e w' ⟨rfl, d, rfl⟩) | (go_at_call 176; refine (HP.out _).mono ?_; rintro e w' ⟨rfl, d2, rfl⟩))
      refine region_bw_tail 9 (by kernel_rfl) (by kernel_rfl) ?_
      simp only [List.take_succ_cons, List.take_zero, List.drop_succ_cons, List.drop_zero]
      repeat (go_big_quiet_step ((first | (go_at_call 177; first | (with_reducible exact bq (H1.out _) (fun d => lay_join _ _ _ d)) | (with_reducible exact bq (H1.out _) (fun d => ⟨d, rfl⟩)) | (with_reducible exact bq (H2.out _) (fun d => lay_join _ _ _ d)) | (with_reducible exact bq (H2.out _) (fun d => ⟨d, rfl⟩))))))
      refine wpQuiet_nil ?_
      rintro w' ⟨d, rfl⟩
      rw [lay_bw]
      go_wp2_with fail
      exact bodyPost_ret (v := .tuple #[(.agg #[.int .i64 (u), .int .i64 (-v)]), .int .i64 0]) (by simp [results, Tryz.results135, go_sem]) rfl ⟨rfl, lay_ex _ _⟩
end Go.Proofs.YtjfpgpipbooilaaGreat
/- Contracts of package meridian and its reference: latitudes at the meridian. -/
namespace Go.Proofs.YtjfpgpipbooilaaGreat
open Go.RowKit

def latB (x0 y0 : Int) : Bool := decide (x0 ≤ y0 ∧ -5400000 ≤ x0 ∧ y0 ≤ 5400000)
theorem latB_iff {x0 y0 : Int} : latB x0 y0 = true ↔ x0 ≤ y0 ∧ -5400000 ≤ x0 ∧ y0 ≤ 5400000 := by simp [latB]
theorem lat_valid {x0 y0 : Int} (h : latB x0 y0 = true) : validB x0 y0 = true := by
  have := latB_iff.1 h; rw [validB_iff]; omega
theorem lat_w1 {x0 y0 : Int} (h1 : validB x0 y0 = true) (h2 : -5400000 ≤ x0) : decide (y0 ≤ 5400000) = latB x0 y0 := by
  have := validB_iff.1 h1; rw [Bool.eq_iff_iff]; simp [latB]; omega
theorem lat_w2 {x0 y0 : Int} (h2 : x0 < -5400000) : false = latB x0 y0 := by rw [Bool.eq_iff_iff]; simp [latB]; omega
theorem lat_w3 {x0 y0 : Int} (h1 : ¬ validB x0 y0 = true) : false = latB x0 y0 := by
  rw [validB_iff] at h1; rw [Bool.eq_iff_iff]; simp [latB]; omega
end Go.Proofs.YtjfpgpipbooilaaGreat

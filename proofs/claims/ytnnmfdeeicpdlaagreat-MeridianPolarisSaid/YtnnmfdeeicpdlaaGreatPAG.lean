/- Contracts and plain laws, several texts in one: SaR; PoP; FxD; Qn1; Qn2; Qn3; Qn4; Qn0; Qn5 -/
import Derived.Test.YtnnmfdeeicpdlaaGreatProg
import Derived.WalkKit
import Derived.WalkSpells
import Derived.WalkLawsBesides
import Derived.Lib.Hide
import Derived.BigQuiet
import Derived.ChangeKeysEq
import Derived.Test.YtnnmfdeeicpdlaaGreatPAA
import Derived.Test.YtnnmfdeeicpdlaaGreatPAB
import Derived.Test.YtnnmfdeeicpdlaaGreatPAC
import Derived.Test.YtnnmfdeeicpdlaaGreatPAD
import Derived.Test.YtnnmfdeeicpdlaaGreatPAE
import Derived.Test.YtnnmfdeeicpdlaaGreatPAF
/- Directions of points of a box about the pole star: they are within 185001 units. No program in sight. -/
namespace Go.Proofs.YtnnmfdeeicpdlaaGreat
open Go.RowKit

theorem b_at (m : Nat) (n q x y x' y' : Int) (hm : n = (m : Int)) (hq : q = n + 5400000) (h0 : 0 < m) (h1 : m < 2700000) (h2 : m ≠ 1800000) (h : ((octS m : Nat) : Int) = x ∧ ((octC m : Nat) : Int) = y) (hx : x + 1 = x') (hy : y + 1 = y') : bLo n = x ∧ bHi n = x' ∧ bLo q = y ∧ bHi q = y' := by
  have e1 := b_one (n := n) (by omega) (by omega)
  have e2 := b_two (n := q) (by omega) (by omega)
  have t1 : n.toNat = m := by omega
  have t2 : (10800000 - q).toNat = 5400000 - m := by omega
  rw [t1] at e1
  rw [t2] at e2
  have s1 := sinQ_s (n := m) (by omega) h2 (by omega)
  have s2 := sinQ_c (n := 5400000 - m) (by omega) (by omega)
  rw [show 5400000 - (5400000 - m) = m by omega] at s2
  have o1 := oneQ_at m
  rw [if_neg (by omega)] at o1
  have o2 := oneQ_at (5400000 - m)
  rw [if_neg (by omega)] at o2
  unfold hiQ at e1 e2
  rw [s1, h.1, o1, hx] at e1
  rw [s2, h.2, o2, hy] at e2
  exact ⟨e1.1, e1.2, e2.1, e2.2⟩
theorem oct_is {r x y : Nat} {a b : Int} (h : RotN r x y) (ha : ((x / 73786976294838206464 : Nat) : Int) = a) (hb : ((y / 73786976294838206464 : Nat) : Int) = b) : ((octS r : Nat) : Int) = a ∧ ((octC r : Nat) : Int) = b := by
  have := oct_of h
  rw [this.1, this.2]
  exact ⟨ha, hb⟩
theorem b_180 : bLo 180000 = 56195305 ∧ bHi 180000 = 56195306 ∧ bLo 5580000 = 1072270298 ∧ bHi 5580000 = 1072270299 :=
  b_at 180000 180000 5580000 _ _ _ _ rfl rfl (by decide) (by decide) (by decide) (oct_is rot_180000 (by decide +kernel) (by decide +kernel)) rfl rfl
theorem b_1 : bHi 1 = 313 :=
  (b_at 1 1 5400001 312 1073741823 313 1073741824 rfl rfl (by decide) (by decide) (by decide) (oct_is rot_1 (by decide +kernel) (by decide +kernel)) rfl rfl).2.1
theorem zS_min {m : Int} (h0 : 1 ≤ m) (h1 : m ≤ 5400000) : 312 ≤ 1073741824 * zS m := by
  have hd := (cell_all (n := m) (by omega) (by omega)).dn
  have hm := (b_up (a := 1) (b := m) (by decide) h0 h1).2
  rw [b_1] at hm
  have := castle hm
  unfold g24 at hd
  push_cast at this
  grind
end Go.Proofs.YtnnmfdeeicpdlaaGreat
/- The pole star: bounds. No program in sight. -/
namespace Go.Proofs.YtnnmfdeeicpdlaaGreat
open Go.RowKit

theorem as_bd (x y : Int) : -5400001 ≤ asL x y ∧ asL x y ≤ 5400001 ∧ -5400001 ≤ asH x y ∧ asH x y ≤ 5400001 := by
  have h1 := asnI_in (v := mx x (-1073741824)) (by rw [mx_eq]; omega)
  have h2 := asnI_in (v := -(mn y 1073741824)) (by rw [mn_eq]; omega)
  unfold asL asH
  split <;> omega
theorem pol_bd {p : Int} (h0 : 0 ≤ p) (h1 : p ≤ 180000) : 0 ≤ bLo p ∧ bHi p ≤ 56195306 ∧ 1072270298 ≤ bLo (p + 5400000) ∧ bHi (p + 5400000) ≤ 1073741824 ∧ bLo p ≤ bHi p ∧ bLo (p + 5400000) ≤ bHi (p + 5400000) := by
  obtain ⟨a, b, c, d⟩ := b_180
  have u := b_up (a := p) (b := 180000) (by omega) h1 (by omega)
  have v := b_down (a := p + 5400000) (b := 5580000) (by omega) (by omega) (by omega)
  have z := bLo_pos h0 (by omega)
  have q := bb_le p
  have r := bb_le (p + 5400000)
  omega
def sgM (m0 m : Int) : Int := if 10800000 ≤ m0 then m - 21600000 else m
def pqL (h0 h1 m0 m1 : Int) : Int := mulL (encL h0 h1) (encH h0 h1) (encL (m0 + 5400000) (m1 + 5400000)) (encH (m0 + 5400000) (m1 + 5400000))
def pqH (h0 h1 m0 m1 : Int) : Int := mulH (encL h0 h1) (encH h0 h1) (encL (m0 + 5400000) (m1 + 5400000)) (encH (m0 + 5400000) (m1 + 5400000))
theorem pq_in (h0 h1 m0 m1 : Int) : -1073741824 ≤ pqL h0 h1 m0 m1 ∧ pqL h0 h1 m0 m1 ≤ pqH h0 h1 m0 m1 ∧ pqH h0 h1 m0 m1 ≤ 1073741824 :=
  mul_unit enc_in.1 enc_in.2.1 enc_in.2.2 enc_in.1 enc_in.2.1 enc_in.2.2
theorem div_fx {a0 a1 b0 b1 : Int} (h0 : -1073741824 ≤ a0) (h : a0 ≤ a1) (h1 : a1 ≤ 1073741824) (g0 : 1000000000 ≤ b0) (g : b0 ≤ b1) : fxB (divL a0 b0 b1) (divH a1 b0 b1) = true := by
  have key : ∀ a b : Int, -1073741824 ≤ a → a ≤ 1073741824 → 1000000000 ≤ b → -2147483648 ≤ a * 1073741824 / b ∧ -((-(a * 1073741824)) / b) ≤ 2147483648 := by
    intro a b u0 u1 u2
    constructor
    · rw [Int.le_ediv_iff_mul_le (by omega)]; omega
    · have : -2147483648 ≤ (-(a * 1073741824)) / b := by rw [Int.le_ediv_iff_mul_le (by omega)]; omega
      omega
  have l := div_le (b1 := b1) h (show 0 < b0 by omega)
  have k0 := (key a0 b0 h0 (by omega) g0).1
  have k1 := (key a0 b1 h0 (by omega) (by omega)).1
  have k2 := (key a1 b0 (by omega) h1 g0).2
  have k3 := (key a1 b1 (by omega) h1 (by omega)).2
  rw [fxB_iff]
  refine ⟨l, ?_, ?_⟩
  · unfold divL; rw [mn_eq]; omega
  · unfold divH; rw [mx_eq]; omega
end Go.Proofs.YtnnmfdeeicpdlaaGreat
/- fixed.Div by a positive divisor. -/
namespace Go.Proofs.YtnnmfdeeicpdlaaGreat
open Go.RowKit

theorem fx_zeroP (b0 b1 : Int) (w : World) (h : 1 ≤ b0) :
    Calls Tryz.prog 119 #[(.agg #[.int .i64 (b0), .int .i64 (b1)])] w fun e w' => e = .returned (.bool false) ∧ ∃ d, w' = bw w d := by
  have h1 : ¬ b0 ≤ 0 := by omega
  clear h
  refine lay_start ?_
  go_enter Tryz.func119, Tryz.ntmps119
  go_wp2
  go_ret
  exact ⟨rfl, lay_ex _ _⟩
theorem four_lo {q00 q01 q10 q11 : Int} (h0 : q00 ≤ q10) (h1 : q01 ≤ q11) : mn (mn (mn (mn q00 q00) q01) q10) q11 = mn q00 q01 := by simp only [mn_eq]; omega
theorem four_hi {q00 q01 q10 q11 : Int} (h0 : q00 ≤ q10) (h1 : q01 ≤ q11) : mx (mx (mx (mx q00 q00) q01) q10) q11 = mx q10 q11 := by simp only [mx_eq]; omega
set_option maxHeartbeats 2000000 in
set_option maxRecDepth 100000 in
theorem fx_DivP (a0 a1 b0 b1 : Int) (w : World) (ha : fxB a0 a1 = true) (hb : fxB b0 b1 = true) (h1 : 1 ≤ b0) :
    Calls Tryz.prog 45 #[(.agg #[.int .i64 (a0), .int .i64 (a1)]), (.agg #[.int .i64 (b0), .int .i64 (b1)])] w fun e w' => e = .returned (.tuple #[(.agg #[.int .i64 (if fxB (divL a0 b0 b1) (divH a1 b0 b1) then divL a0 b0 b1 else 0), .int .i64 (if fxB (divL a0 b0 b1) (divH a1 b0 b1) then divH a1 b0 b1 else 0)]), .int .i64 (if fxB (divL a0 b0 b1) (divH a1 b0 b1) then 0 else 5)]) ∧ ∃ d, w' = bw w d := by
  have HB := Lib.hid (fun W => fx_bothG a0 a1 b0 b1 W)
  rw [ha, hb, Bool.and_self] at HB
  have HZ := Lib.hid (fun W => fx_zeroP b0 b1 W h1)
  have ga := fxB_iff.1 ha
  have gb := fxB_iff.1 hb
  have HF := Lib.hid (fun W => fx_fitX (divL a0 b0 b1) (divH a1 b0 b1) W)
  generalize (if fxB (divL a0 b0 b1) (divH a1 b0 b1) then divL a0 b0 b1 else 0) = r0 at *
  generalize (if fxB (divL a0 b0 b1) (divH a1 b0 b1) then divH a1 b0 b1 else 0) = r1 at *
  generalize (if fxB (divL a0 b0 b1) (divH a1 b0 b1) then (0 : Int) else 5) = re at *
  unfold divL divH at HF
  have m0 : a0 * 1073741824 / b0 ≤ a1 * 1073741824 / b0 := Int.ediv_le_ediv (by omega) (by omega)
  have m1 : a0 * 1073741824 / b1 ≤ a1 * 1073741824 / b1 := Int.ediv_le_ediv (by omega) (by omega)
  have m2 : -(a1 * 1073741824) / b0 ≤ -(a0 * 1073741824) / b0 := Int.ediv_le_ediv (by omega) (by omega)
  have m3 : -(a1 * 1073741824) / b1 ≤ -(a0 * 1073741824) / b1 := Int.ediv_le_ediv (by omega) (by omega)
  have F00 := Lib.hid (fun W => fx_floorG (a0 * 1073741824) b0 W h1 (by omega) (by omega))
  have F01 := Lib.hid (fun W => fx_floorG (a0 * 1073741824) b1 W (by omega) (by omega) (by omega))
  have F10 := Lib.hid (fun W => fx_floorG (a1 * 1073741824) b0 W h1 (by omega) (by omega))
  have F11 := Lib.hid (fun W => fx_floorG (a1 * 1073741824) b1 W (by omega) (by omega) (by omega))
  have C00 := Lib.hid (fun W => fx_ceilG (a0 * 1073741824) b0 W h1 (by omega) (by omega))
  have C01 := Lib.hid (fun W => fx_ceilG (a0 * 1073741824) b1 W (by omega) (by omega) (by omega))
  have C10 := Lib.hid (fun W => fx_ceilG (a1 * 1073741824) b0 W h1 (by omega) (by omega))
  have C11 := Lib.hid (fun W => fx_ceilG (a1 * 1073741824) b1 W (by omega) (by omega) (by omega))
  have kx : IntKind.i64.wrap (a0 * 1073741824) = a0 * 1073741824 := IntWalk.i64_in _ (by omega)
  have ky : IntKind.i64.wrap (a1 * 1073741824) = a1 * 1073741824 := IntWalk.i64_in _ (by omega)
  obtain ⟨X, hX⟩ : ∃ X, a0 * 1073741824 = X := ⟨_, rfl⟩
  obtain ⟨Y, hY⟩ : ∃ Y, a1 * 1073741824 = Y := ⟨_, rfl⟩
  have k1 : IntKind.i64.wrap (a0 * 1073741824) = X := kx.trans hX
  have k2 : IntKind.i64.wrap (a1 * 1073741824) = Y := ky.trans hY
  simp only [hX, hY] at F00 F01 F10 F11 C00 C01 C10 C11 m0 m1 m2 m3 HF
  clear kx ky hX hY ga gb ha hb h1
  generalize X / b0 = q00 at *
  generalize X / b1 = q01 at *
  generalize Y / b0 = q10 at *
  generalize Y / b1 = q11 at *
  obtain ⟨c00, e00⟩ : ∃ c, -(-X / b0) = c := ⟨_, rfl⟩
  obtain ⟨c01, e01⟩ : ∃ c, -(-X / b1) = c := ⟨_, rfl⟩
  obtain ⟨c10, e10⟩ : ∃ c, -(-Y / b0) = c := ⟨_, rfl⟩
  obtain ⟨c11, e11⟩ : ∃ c, -(-Y / b1) = c := ⟨_, rfl⟩
  have n0 : c00 ≤ c10 := by omega
  have n1 : c01 ≤ c11 := by omega
  rw [e00] at C00
  rw [e01] at C01
  rw [e10] at C10 HF
  rw [e11] at C11 HF
  rw [← four_lo m0 m1, ← four_hi n0 n1] at HF
  clear m0 m1 m2 m3 n0 n1 e00 e01 e10 e11
  generalize hu1 : mn q00 q00 = u1 at *
  generalize hu2 : mn u1 q01 = u2 at *
  generalize hu3 : mn u2 q10 = u3 at *
  generalize hu4 : mn u3 q11 = u4 at *
  generalize hv1 : mx c00 c00 = v1 at *
  generalize hv2 : mx v1 c01 = v2 at *
  generalize hv3 : mx v2 c10 = v3 at *
  generalize hv4 : mx v3 c11 = v4 at *
  refine lay_start ?_
  go_enter Tryz.func45, Tryz.ntmps45
  go_wp2_with (first | (go_at_call 94; refine (HB.out _).mono ?_; rintro e w' ⟨rfl, d1, rfl⟩; rw [lay_bw]) | (go_at_call 119; refine (HZ.out _).mono ?_; rintro e w' ⟨rfl, d2, rfl⟩; rw [lay_bw]))
  refine region_bw (by kernel_rfl) (by kernel_rfl) ?_
  repeat (go_big_quiet_step ((first | (go_at_call 96; exact bqs (F00.out _) ⟨_, rfl⟩) | (go_at_call 97; exact bqs (C00.out _) ⟨_, rfl⟩))))
  refine wpQuiet_nil ?_
  rintro w' ⟨d, rfl⟩
  rw [lay_bw]
  go_wp2_with fail
  go_loopw [40, 6, 7] (fun v40 v6 v7 wr => ∃ (i l h : Int) (dd : Ext), v40 = .int .i64 i ∧ v6 = .int .i64 l ∧ v7 = .int .i64 h ∧ wr = lay w (.inr dd :: [.inl (Obj.cells #[.int .i64 a0, .int .i64 a1] 3), .inr d, .inr d2, .inr d1, .inl (Obj.cells #[.int .i64 0, .int .i64 0] 59), .inl (Obj.cells #[.int .i64 b0, .int .i64 b1] 59), .inl (Obj.cells #[.int .i64 a0, .int .i64 a1] 59)]) ∧ ((i = 0 ∧ q00 = l ∧ c00 = h) ∨ (i = 1 ∧ u2 = l ∧ v2 = h) ∨ (i = 2 ∧ u4 = l ∧ v4 = h))) (fun v40 _ _ _ => (3 - intOf v40).toNat)
  case atStart => exact ⟨_, _, _, noExt _, rfl, rfl, rfl, (bw_noExt _).symm, .inl ⟨rfl, rfl, rfl⟩⟩
  case round =>
    obtain ⟨i, l, h, dd, rfl, rfl, rfl, rfl, hi⟩ := hrel
    rcases hi with ⟨rfl, rfl, rfl⟩ | ⟨rfl, rfl, rfl⟩ | ⟨rfl, rfl, rfl⟩
    · clear HB HZ F10 F11 C10 C11 HF hu3 hu4 hv3 hv4 k2
      go_wp2_with fail
      go_loopw [50, 6, 7] (fun v50 v6 v7 wr => ∃ (j l h : Int) (de : Ext), v50 = .int .i64 j ∧ v6 = .int .i64 l ∧ v7 = .int .i64 h ∧ wr = lay w (.inr de :: .inl (Obj.cells #[.int .i64 b0, .int .i64 b1] 3) :: .inr dd :: [.inl (Obj.cells #[.int .i64 a0, .int .i64 a1] 3), .inr d, .inr d2, .inr d1, .inl (Obj.cells #[.int .i64 0, .int .i64 0] 59), .inl (Obj.cells #[.int .i64 b0, .int .i64 b1] 59), .inl (Obj.cells #[.int .i64 a0, .int .i64 a1] 59)]) ∧ ((j = 0 ∧ q00 = l ∧ c00 = h) ∨ (j = 1 ∧ u1 = l ∧ v1 = h) ∨ (j = 2 ∧ u2 = l ∧ v2 = h))) (fun v50 _ _ _ => (3 - intOf v50).toNat)
      case atStart => exact ⟨_, _, _, noExt _, rfl, rfl, rfl, (bw_noExt _).symm, .inl ⟨rfl, rfl, rfl⟩⟩
      case round =>
        obtain ⟨j, l, h, de, rfl, rfl, rfl, rfl, hj⟩ := hrel
        rcases hj with ⟨rfl, rfl, rfl⟩ | ⟨rfl, rfl, rfl⟩ | ⟨rfl, rfl, rfl⟩
        · go_wp2_with (first | (go_at_call 96; refine (F00.out _).mono ?_; rintro e w' ⟨rfl, rfl⟩) | (go_at_call 97; refine (C00.out _).mono ?_; rintro e w' ⟨rfl, rfl⟩))
          exact ⟨⟨_, _, _, de, rfl, rfl, rfl, rfl, .inr (.inl ⟨rfl, rfl, rfl⟩)⟩, by simp only [intOf]; decide⟩
        · go_wp2_with (first | (go_at_call 96; refine (F01.out _).mono ?_; rintro e w' ⟨rfl, rfl⟩) | (go_at_call 97; refine (C01.out _).mono ?_; rintro e w' ⟨rfl, rfl⟩))
          exact ⟨⟨_, _, _, de, rfl, rfl, rfl, rfl, .inr (.inr ⟨rfl, rfl, rfl⟩)⟩, by simp only [intOf]; decide⟩
        · go_wp2_with fail
          obtain ⟨df, hdf⟩ := lay_fold w [.inr de, .inl (Obj.cells #[.int .i64 b0, .int .i64 b1] 3), .inr dd] [.inl (Obj.cells #[.int .i64 a0, .int .i64 a1] 3), .inr d, .inr d2, .inr d1, .inl (Obj.cells #[.int .i64 0, .int .i64 0] 59), .inl (Obj.cells #[.int .i64 b0, .int .i64 b1] 59), .inl (Obj.cells #[.int .i64 a0, .int .i64 a1] 59)]
          exact ⟨⟨_, _, _, df, rfl, rfl, rfl, hdf, .inr (.inl ⟨rfl, rfl, rfl⟩)⟩, by simp only [intOf]; decide⟩
    · clear HB HZ F00 F01 C00 C01 HF hu1 hu2 hv1 hv2 k1
      go_wp2_with fail
      go_loopw [50, 6, 7] (fun v50 v6 v7 wr => ∃ (j l h : Int) (de : Ext), v50 = .int .i64 j ∧ v6 = .int .i64 l ∧ v7 = .int .i64 h ∧ wr = lay w (.inr de :: .inl (Obj.cells #[.int .i64 b0, .int .i64 b1] 3) :: .inr dd :: [.inl (Obj.cells #[.int .i64 a0, .int .i64 a1] 3), .inr d, .inr d2, .inr d1, .inl (Obj.cells #[.int .i64 0, .int .i64 0] 59), .inl (Obj.cells #[.int .i64 b0, .int .i64 b1] 59), .inl (Obj.cells #[.int .i64 a0, .int .i64 a1] 59)]) ∧ ((j = 0 ∧ u2 = l ∧ v2 = h) ∨ (j = 1 ∧ u3 = l ∧ v3 = h) ∨ (j = 2 ∧ u4 = l ∧ v4 = h))) (fun v50 _ _ _ => (3 - intOf v50).toNat)
      case atStart => exact ⟨_, _, _, noExt _, rfl, rfl, rfl, (bw_noExt _).symm, .inl ⟨rfl, rfl, rfl⟩⟩
      case round =>
        obtain ⟨j, l, h, de, rfl, rfl, rfl, rfl, hj⟩ := hrel
        rcases hj with ⟨rfl, rfl, rfl⟩ | ⟨rfl, rfl, rfl⟩ | ⟨rfl, rfl, rfl⟩
        · go_wp2_with (first | (go_at_call 96; refine (F10.out _).mono ?_; rintro e w' ⟨rfl, rfl⟩) | (go_at_call 97; refine (C10.out _).mono ?_; rintro e w' ⟨rfl, rfl⟩))
          exact ⟨⟨_, _, _, de, rfl, rfl, rfl, rfl, .inr (.inl ⟨rfl, rfl, rfl⟩)⟩, by simp only [intOf]; decide⟩
        · go_wp2_with (first | (go_at_call 96; refine (F11.out _).mono ?_; rintro e w' ⟨rfl, rfl⟩) | (go_at_call 97; refine (C11.out _).mono ?_; rintro e w' ⟨rfl, rfl⟩))
          exact ⟨⟨_, _, _, de, rfl, rfl, rfl, rfl, .inr (.inr ⟨rfl, rfl, rfl⟩)⟩, by simp only [intOf]; decide⟩
        · go_wp2_with fail
          obtain ⟨df, hdf⟩ := lay_fold w [.inr de, .inl (Obj.cells #[.int .i64 b0, .int .i64 b1] 3), .inr dd] [.inl (Obj.cells #[.int .i64 a0, .int .i64 a1] 3), .inr d, .inr d2, .inr d1, .inl (Obj.cells #[.int .i64 0, .int .i64 0] 59), .inl (Obj.cells #[.int .i64 b0, .int .i64 b1] 59), .inl (Obj.cells #[.int .i64 a0, .int .i64 a1] 59)]
          exact ⟨⟨_, _, _, df, rfl, rfl, rfl, hdf, .inr (.inr ⟨rfl, rfl, rfl⟩)⟩, by simp only [intOf]; decide⟩
    · clear HB HZ F00 F01 C00 C01 F10 F11 C10 C11 hu1 hu2 hv1 hv2 hu3 hv3 hu4 hv4 k1 k2
      go_wp2_with (go_at_call 95; refine (HF.out _).mono ?_; rintro e w' ⟨rfl, d3, rfl⟩)
      exact bodyPost_ret (v := .tuple #[(.agg #[.int .i64 (r0), .int .i64 (r1)]), .int .i64 re]) (by simp [results, Tryz.results45, go_sem]) rfl ⟨rfl, lay_ex _ _⟩
end Go.Proofs.YtnnmfdeeicpdlaaGreat
/- Numbers of an integral part and three words of the fraction: sums, differences, parts, multiples, comparison. -/
namespace Go.Proofs.YtnnmfdeeicpdlaaGreat
set_option maxHeartbeats 4000000
set_option maxRecDepth 100000
open Go.RowKit

def LowA (B : Nat) (a b r : List Nat) (k c : Nat) : Prop := valB B (r.drop k) + c * B ^ (4 - k) = valB B (a.drop k) + valB B (b.drop k)
theorem lowA_step {B : Nat} {a b r : List Nat} {i c d c' : Nat} (ha : a.length = 4) (hb : b.length = 4) (hr : r.length = 4) (hi : i < 4) (h : LowA B a b r (i + 1) c) (e : d + c' * B = nt a i + nt b i + c) : LowA B a b (r.set i d) i c' := by
  unfold LowA at *
  rw [valB_drop (l := r.set i d) (by rw [List.length_set, hr]; exact hi), valB_drop (l := b) (by rw [hb]; exact hi), valB_drop (l := a) (by rw [ha]; exact hi), drop_set, nt_set (by rw [hr]; exact hi), if_pos rfl, List.length_set, ha, hb, hr]
  have hp : B ^ (4 - i) = B ^ (4 - i - 1) * B := by rw [← Nat.pow_succ]; congr 1; omega
  rw [hp]
  rw [show 4 - (i + 1) = 4 - i - 1 by omega] at h
  generalize B ^ (4 - i - 1) = P at *
  have e2 : (d + c' * B) * P = (nt a i + nt b i + c) * P := by rw [e]
  grind
structure AddI (a b r : List Nat) (k c : Nat) : Prop where
  wd : Wd 4 r
  old : ∀ j, j < k → nt r j = nt a j
  c1 : c ≤ 1
  low : LowA 18446744073709551616 a b r k c
theorem AddI.start {a b : List Nat} (ha : Wd 4 a) (hb : Wd 4 b) : AddI a b a 4 0 := ⟨ha, fun _ _ => rfl, by omega, by
  unfold LowA
  rw [List.drop_eq_nil_of_le (by rw [ha.len]; exact Nat.le_refl 4), List.drop_eq_nil_of_le (by rw [hb.len]; exact Nat.le_refl 4)]
  simp [valB]⟩
theorem AddI.step {a b r : List Nat} {i c d c' : Nat} (h : AddI a b r (i + 1) c) (ha : Wd 4 a) (hb : Wd 4 b) (hi : i < 4) (hd : d < 18446744073709551616) (hc : c' ≤ 1) (e : d + c' * 18446744073709551616 = nt r i + nt b i + c) : AddI a b (r.set i d) i c' :=
  ⟨h.wd.set hi hd, fun j hj => by rw [nt_set (by rw [h.wd.len]; exact hi), if_neg (by omega)]; exact h.old j (by omega), hc, lowA_step ha.len hb.len h.wd.len hi h.low (by rw [← h.old i (by omega)]; exact e)⟩
theorem AddI.done {a b r : List Nat} {c : Nat} (h : AddI a b r 0 c) : c ≤ 1 ∧ val4 r + c * 18446744073709551616 ^ 4 = val4 a + val4 b := ⟨h.c1, by have := h.low; unfold LowA at this; simpa [val4] using this⟩
theorem qn_sub (a b : List Nat) (ha : Wd 4 a) (hb : Wd 4 b) (w : World) :
    Calls Tryz.prog 332 #[nuV a, nuV b] w fun e w' => ∃ r d, e = .returned (nuV r) ∧ w' = bw w d ∧ Wd 4 r ∧ ∃ c, c ≤ 1 ∧ val4 r + val4 b = val4 a + c * 18446744073709551616 ^ 4 := by
  refine lay_start ?_
  unfold nuV
  go_enter Tryz.func332, Tryz.ntmps332
  go_wp2_with fail
  rw [← nuA_four ha.len, ← nuA_four hb.len]
  go_loopw [5, 6] (fun v5 v6 wr => ∃ (k c : Nat) (r : List Nat) (d : Ext), k ≤ 4 ∧ v5 = .int .u64 (c : Int) ∧ v6 = .int .i64 ((k : Int) - 1) ∧ wr = lay w [.inr d, .inl (.cells #[.int .u64 0, .int .u64 0, .int .u64 0, .int .u64 0] 241 (0, 0)), .inl (.cells (nuA b) 241 (0, 0)), .inl (.cells (nuA r) 241 (0, 0))] ∧ SubI a b r k c) (fun _ v6 _ => (intOf v6 + 1).toNat)
  case atStart => exact ⟨4, 0, a, noExt _, Nat.le_refl _, rfl, rfl, (bw_noExt _).symm, SubI.start ha hb⟩
  case round =>
    obtain ⟨k, c, r, d, hk, rfl, rfl, rfl, hS⟩ := hrel
    have HS := Lib.hid hS
    rcases k with _ | i
    · rw [show ((0 : Nat) : Int) - 1 = -1 from rfl]
      have g0 := nuA_get (l := r) (i := 0) (by rw [hS.wd.len]; decide)
      have g1 := nuA_get (l := r) (i := 1) (by rw [hS.wd.len]; decide)
      have g2 := nuA_get (l := r) (i := 2) (by rw [hS.wd.len]; decide)
      have g3 := nuA_get (l := r) (i := 3) (by rw [hS.wd.len]; decide)
      clear hS
      go_wp2_with fail
      obtain ⟨dz, ez⟩ := lay_all w [.inr d, .inl (.cells #[.int .u64 (nt r 0 : Int), .int .u64 (nt r 1 : Int), .int .u64 (nt r 2 : Int), .int .u64 (nt r 3 : Int)] 241 (0, 0)), .inl (.cells (nuA b) 241 (0, 0)), .inl (.cells (nuA r) 241 (0, 0))]
      exact bodyPost_ret (v := .agg #[.int .u64 (nt r 0 : Int), .int .u64 (nt r 1 : Int), .int .u64 (nt r 2 : Int), .int .u64 (nt r 3 : Int)]) (by simp [results, Tryz.results332, go_sem]) rfl ⟨r, dz, rfl, ez, HS.out.wd, c, HS.out.done⟩
    · rw [show ((i + 1 : Nat) : Int) - 1 = (i : Int) by omega]
      have hi : i < 4 := by omega
      have x0 : (0 : Int) ≤ (i : Int) := by omega
      have x1 : (i : Int) < 4 := by omega
      have x2 : (i : Int).toNat = i := by omega
      obtain ⟨X, hX⟩ : ∃ X, nt r i = X := ⟨_, rfl⟩
      obtain ⟨Y, hY⟩ : ∃ Y, nt b i = Y := ⟨_, rfl⟩
      have g0 := nuA_get (l := r) (i := i) (by rw [hS.wd.len]; exact hi)
      have g1 := nuA_get (l := b) (i := i) (by rw [hb.len]; exact hi)
      rw [hX] at g0
      rw [hY] at g1
      obtain ⟨D, c', hD, hc', e1, e2, e3⟩ := sub_word (x := X) (y := Y) (b := c) (B := 18446744073709551616) (by rw [← hX]; exact hS.wd.lt i) (by rw [← hY]; exact hb.lt i) hS.c1
      have hcall := fun W => sub64 X Y c hS.c1 W
      rw [e1, e2] at hcall
      have HN := Lib.hid (hS.step ha hb hi hD hc' (by rw [hX, hY]; exact e3))
      clear hS e1 e2 e3
      have hz : c ≤ 1 := HS.out.c1
      go_wp2_with fail
      refine region_mixS 13 [(0, 2), (1, 2), (2, 2), (3, 0), (4, 2), (5, 2), (6, 0), (7, 2), (8, 2), (9, 2), (10, 2), (11, 2), (12, 2), (13, 3), (14, 2)] (by kernel_rfl) (by kernel_rfl) (by kernel_rfl) rfl ?_
      repeat (first | (refine wpMS_pure rfl (fun K hK => ?_); go_simp; refine hK _ ?_; clear hK K) | (refine wpMS_quiet rfl (fun K hK => ?_); go_simp; first | (refine hK _ ?_; clear hK K) | (apply Exists.intro; refine ⟨fun _ => ?_, hK _ ?_⟩; (first | fail); clear hK K)))
      refine wpMS_store rfl (fun K hK e1 => ?_)
      rw [lay_bw]
      go_simp
      refine hK _ _ ?_
      clear hK K
      rw [nuA_set]
      repeat (first | (refine wpMS_pure rfl (fun K hK => ?_); go_simp; refine hK _ ?_; clear hK K) | (refine wpMS_quiet rfl (fun K hK => ?_); go_simp; first | (refine hK _ ?_; clear hK K) | (apply Exists.intro; refine ⟨fun _ => ?_, hK _ ?_⟩; (first | fail); clear hK K)))
      refine wpMS_nil (fun e2 => ?_)
      rw [lay_bw]
      obtain ⟨d3, e3⟩ := lay_fold w [.inr e2, .inr e1, .inr d] [.inl (.cells #[.int .u64 0, .int .u64 0, .int .u64 0, .int .u64 0] 241 (0, 0)), .inl (.cells (nuA b) 241 (0, 0)), .inl (.cells (nuA (r.set i D)) 241 (0, 0))]
      change lay w [.inr e2, .inr e1, .inr d, .inl (.cells #[.int .u64 0, .int .u64 0, .int .u64 0, .int .u64 0] 241 (0, 0)), .inl (.cells (nuA b) 241 (0, 0)), .inl (.cells (nuA (r.set i D)) 241 (0, 0))] = _ at e3
      rw [e3]
      clear e3
      go_wp2_with fail
      go_roundw
      case rel => exact ⟨i, c', r.set i D, d3, by omega, rfl, rfl, rfl, HN.out⟩
      case measure => simp [intOf]
theorem qn_add (a b : List Nat) (ha : Wd 4 a) (hb : Wd 4 b) (w : World) :
    Calls Tryz.prog 333 #[nuV a, nuV b] w fun e w' => ∃ r d, e = .returned (nuV r) ∧ w' = bw w d ∧ Wd 4 r ∧ ∃ c, c ≤ 1 ∧ val4 r + c * 18446744073709551616 ^ 4 = val4 a + val4 b := by
  refine lay_start ?_
  unfold nuV
  go_enter Tryz.func333, Tryz.ntmps333
  go_wp2_with fail
  rw [← nuA_four ha.len, ← nuA_four hb.len]
  go_loopw [5, 6] (fun v5 v6 wr => ∃ (k c : Nat) (r : List Nat) (d : Ext), k ≤ 4 ∧ v5 = .int .u64 (c : Int) ∧ v6 = .int .i64 ((k : Int) - 1) ∧ wr = lay w [.inr d, .inl (.cells #[.int .u64 0, .int .u64 0, .int .u64 0, .int .u64 0] 241 (0, 0)), .inl (.cells (nuA b) 241 (0, 0)), .inl (.cells (nuA r) 241 (0, 0))] ∧ AddI a b r k c) (fun _ v6 _ => (intOf v6 + 1).toNat)
  case atStart => exact ⟨4, 0, a, noExt _, Nat.le_refl _, rfl, rfl, (bw_noExt _).symm, AddI.start ha hb⟩
  case round =>
    obtain ⟨k, c, r, d, hk, rfl, rfl, rfl, hS⟩ := hrel
    have HS := Lib.hid hS
    rcases k with _ | i
    · rw [show ((0 : Nat) : Int) - 1 = -1 from rfl]
      have g0 := nuA_get (l := r) (i := 0) (by rw [hS.wd.len]; decide)
      have g1 := nuA_get (l := r) (i := 1) (by rw [hS.wd.len]; decide)
      have g2 := nuA_get (l := r) (i := 2) (by rw [hS.wd.len]; decide)
      have g3 := nuA_get (l := r) (i := 3) (by rw [hS.wd.len]; decide)
      clear hS
      go_wp2_with fail
      obtain ⟨dz, ez⟩ := lay_all w [.inr d, .inl (.cells #[.int .u64 (nt r 0 : Int), .int .u64 (nt r 1 : Int), .int .u64 (nt r 2 : Int), .int .u64 (nt r 3 : Int)] 241 (0, 0)), .inl (.cells (nuA b) 241 (0, 0)), .inl (.cells (nuA r) 241 (0, 0))]
      exact bodyPost_ret (v := .agg #[.int .u64 (nt r 0 : Int), .int .u64 (nt r 1 : Int), .int .u64 (nt r 2 : Int), .int .u64 (nt r 3 : Int)]) (by simp [results, Tryz.results333, go_sem]) rfl ⟨r, dz, rfl, ez, HS.out.wd, c, HS.out.done⟩
    · rw [show ((i + 1 : Nat) : Int) - 1 = (i : Int) by omega]
      have hi : i < 4 := by omega
      have x0 : (0 : Int) ≤ (i : Int) := by omega
      have x1 : (i : Int) < 4 := by omega
      have x2 : (i : Int).toNat = i := by omega
      obtain ⟨X, hX⟩ : ∃ X, nt r i = X := ⟨_, rfl⟩
      obtain ⟨Y, hY⟩ : ∃ Y, nt b i = Y := ⟨_, rfl⟩
      have g0 := nuA_get (l := r) (i := i) (by rw [hS.wd.len]; exact hi)
      have g1 := nuA_get (l := b) (i := i) (by rw [hb.len]; exact hi)
      rw [hX] at g0
      rw [hY] at g1
      obtain ⟨D, c', hD, hc', e1, e2, e3⟩ := add_word (x := X) (y := Y) (c := c) (B := 18446744073709551616) (by rw [← hX]; exact hS.wd.lt i) (by rw [← hY]; exact hb.lt i) hS.c1
      have hcall := fun W => add64 X Y c hS.c1 W
      rw [e1, e2] at hcall
      have HN := Lib.hid (hS.step ha hb hi hD hc' (by rw [hX, hY]; exact e3))
      clear hS e1 e2 e3
      have hz : c ≤ 1 := HS.out.c1
      go_wp2_with fail
      refine region_mixS 13 [(0, 2), (1, 2), (2, 2), (3, 0), (4, 2), (5, 2), (6, 0), (7, 2), (8, 2), (9, 2), (10, 2), (11, 2), (12, 2), (13, 3), (14, 2)] (by kernel_rfl) (by kernel_rfl) (by kernel_rfl) rfl ?_
      repeat (first | (refine wpMS_pure rfl (fun K hK => ?_); go_simp; refine hK _ ?_; clear hK K) | (refine wpMS_quiet rfl (fun K hK => ?_); go_simp; first | (refine hK _ ?_; clear hK K) | (apply Exists.intro; refine ⟨fun _ => ?_, hK _ ?_⟩; (first | fail); clear hK K)))
      refine wpMS_store rfl (fun K hK e1 => ?_)
      rw [lay_bw]
      go_simp
      refine hK _ _ ?_
      clear hK K
      rw [nuA_set]
      repeat (first | (refine wpMS_pure rfl (fun K hK => ?_); go_simp; refine hK _ ?_; clear hK K) | (refine wpMS_quiet rfl (fun K hK => ?_); go_simp; first | (refine hK _ ?_; clear hK K) | (apply Exists.intro; refine ⟨fun _ => ?_, hK _ ?_⟩; (first | fail); clear hK K)))
      refine wpMS_nil (fun e2 => ?_)
      rw [lay_bw]
      obtain ⟨d3, e3⟩ := lay_fold w [.inr e2, .inr e1, .inr d] [.inl (.cells #[.int .u64 0, .int .u64 0, .int .u64 0, .int .u64 0] 241 (0, 0)), .inl (.cells (nuA b) 241 (0, 0)), .inl (.cells (nuA (r.set i D)) 241 (0, 0))]
      change lay w [.inr e2, .inr e1, .inr d, .inl (.cells #[.int .u64 0, .int .u64 0, .int .u64 0, .int .u64 0] 241 (0, 0)), .inl (.cells (nuA b) 241 (0, 0)), .inl (.cells (nuA (r.set i D)) 241 (0, 0))] = _ at e3
      rw [e3]
      clear e3
      go_wp2_with fail
      go_roundw
      case rel => exact ⟨i, c', r.set i D, d3, by omega, rfl, rfl, rfl, HN.out⟩
      case measure => simp [intOf]
theorem qn_over (a : List Nat) (dv : Nat) (ha : Wd 4 a) (ht : 0 < dv) (hd : dv < 18446744073709551616) (w : World) :
    Calls Tryz.prog 288 #[nuV a, .int .u64 (dv : Int)] w fun e w' => ∃ r d, e = .returned (nuV r) ∧ w' = bw w d ∧ Wd 4 r ∧ val4 r = val4 a / dv := by
  refine lay_start ?_
  unfold nuV
  go_enter Tryz.func288, Tryz.ntmps288
  go_wp2_with fail
  rw [← nuA_four ha.len]
  go_loopw [5, 7] (fun v1 v8 wr => ∃ (k t : Nat) (r : List Nat) (d : Ext), k ≤ 4 ∧ v1 = .int .u64 (t : Int) ∧ v8 = .int .i64 (k : Int) ∧ wr = lay w [.inr d, .inl (.cells #[.int .u64 0, .int .u64 0, .int .u64 0, .int .u64 0] 241 (0, 0)), .inl (.cells (nuA r) 241 (0, 0))] ∧ DivI a 0 dv r k t) (fun _ v8 _ => 4 - (intOf v8).toNat)
  case atStart => exact ⟨0, 0, a, noExt _, by omega, rfl, rfl, (bw_noExt _).symm, DivI.start ha ht⟩
  case round =>
    obtain ⟨k, t, r, d, hk, rfl, rfl, rfl, hS⟩ := hrel
    have HS := Lib.hid hS
    by_cases hk4 : k = 4
    · subst hk4
      have g0 := nuA_get (l := r) (i := 0) (by rw [hS.wd.len]; decide)
      have g1 := nuA_get (l := r) (i := 1) (by rw [hS.wd.len]; decide)
      have g2 := nuA_get (l := r) (i := 2) (by rw [hS.wd.len]; decide)
      have g3 := nuA_get (l := r) (i := 3) (by rw [hS.wd.len]; decide)
      clear hS
      go_wp2_with fail
      obtain ⟨dz, ez⟩ := lay_all w [.inr d, .inl (.cells #[.int .u64 (nt r 0 : Int), .int .u64 (nt r 1 : Int), .int .u64 (nt r 2 : Int), .int .u64 (nt r 3 : Int)] 241 (0, 0)), .inl (.cells (nuA r) 241 (0, 0))]
      exact bodyPost_ret (v := .agg #[.int .u64 (nt r 0 : Int), .int .u64 (nt r 1 : Int), .int .u64 (nt r 2 : Int), .int .u64 (nt r 3 : Int)]) (by simp [results, Tryz.results288, go_sem]) rfl ⟨r, dz, rfl, ez, HS.out.wd, by have := HS.out.done ha; rw [Nat.zero_mul, Nat.zero_add] at this; exact this⟩
    · have hi : k < 4 := by omega
      have x0 : (0 : Int) ≤ (k : Int) := by omega
      have x1 : (k : Int) < 4 := by omega
      have x2 : (k : Int).toNat = k := by omega
      obtain ⟨hq, hN⟩ := hS.step ha hi
      obtain ⟨X, hX⟩ : ∃ X, nt r k = X := ⟨_, rfl⟩
      have g0 := nuA_get (l := r) (i := k) (by rw [hS.wd.len]; exact hi)
      have HC := Lib.hid (fun W => div64 t X dv hS.td (by rw [← hX]; exact hS.wd.lt k) hd W)
      rw [hX] at g0 hN hq
      obtain ⟨Q, hQ⟩ : ∃ Q, (t * 18446744073709551616 + X) / dv = Q := ⟨_, rfl⟩
      obtain ⟨T, hT⟩ : ∃ T, (t * 18446744073709551616 + X) % dv = T := ⟨_, rfl⟩
      rw [hQ, hT] at hN HC
      have HN := Lib.hid hN
      clear hS hN hQ hT hX hq
      go_wp2_with (go_at_call 80; refine (HC.out _).mono ?_; rintro e w' ⟨rfl, d1, rfl⟩)
      rw [nuA_set]
      obtain ⟨d3, e3⟩ := lay_fold w [.inr d1, .inr d] [.inl (.cells #[.int .u64 0, .int .u64 0, .int .u64 0, .int .u64 0] 241 (0, 0)), .inl (.cells (nuA (r.set k Q)) 241 (0, 0))]
      change lay w [.inr d1, .inr d, .inl (.cells #[.int .u64 0, .int .u64 0, .int .u64 0, .int .u64 0] 241 (0, 0)), .inl (.cells (nuA (r.set k Q)) 241 (0, 0))] = _ at e3
      rw [e3]
      clear e3
      go_roundw
      case rel => exact ⟨k + 1, T, r.set k Q, d3, by omega, rfl, by first | rfl | exact congrArg (Value.int .i64) (by omega), rfl, HN.out⟩
      case measure => simp [intOf]; omega
end Go.Proofs.YtnnmfdeeicpdlaaGreat
/- Numbers of an integral part and three words of the fraction: multiples and comparison. -/
namespace Go.Proofs.YtnnmfdeeicpdlaaGreat
set_option maxHeartbeats 4000000
set_option maxRecDepth 100000
open Go.RowKit

theorem qn_times (a : List Nat) (n : Nat) (ha : Wd 4 a) (hn : n < 18446744073709551616) (w : World) :
    Calls Tryz.prog 246 #[nuV a, .int .u64 (n : Int)] w fun e w' => ∃ r d, e = .returned (nuV r) ∧ w' = bw w d ∧ Wd 4 r ∧ ∃ t, val4 r + t * 18446744073709551616 ^ 4 = n * val4 a := by
  refine lay_start ?_
  unfold nuV
  go_enter Tryz.func246, Tryz.ntmps246
  go_wp2_with fail
  rw [← nuA_four ha.len]
  go_loopw [5, 6, 7, 8, 9] (fun v4 v5 _ _ _ wr => ∃ (k t : Nat) (r : List Nat) (d : Ext), k ≤ 4 ∧ v4 = .int .u64 (t : Int) ∧ v5 = .int .i64 ((k : Int) - 1) ∧ wr = lay w [.inr d, .inl (.cells #[.int .u64 0, .int .u64 0, .int .u64 0, .int .u64 0] 241 (0, 0)), .inl (.cells (nuA r) 241 (0, 0))] ∧ MulI a n r k t) (fun _ v5 _ _ _ _ => (intOf v5 + 1).toNat)
  case atStart => exact ⟨4, 0, a, noExt _, Nat.le_refl _, rfl, rfl, (bw_noExt _).symm, MulI.start ha⟩
  case round =>
    obtain ⟨k, t, r, d, hk, rfl, rfl, rfl, hS⟩ := hrel
    have HS := Lib.hid hS
    rcases k with _ | i
    · rw [show ((0 : Nat) : Int) - 1 = -1 from rfl]
      have g0 := nuA_get (l := r) (i := 0) (by rw [hS.wd.len]; decide)
      have g1 := nuA_get (l := r) (i := 1) (by rw [hS.wd.len]; decide)
      have g2 := nuA_get (l := r) (i := 2) (by rw [hS.wd.len]; decide)
      have g3 := nuA_get (l := r) (i := 3) (by rw [hS.wd.len]; decide)
      clear hS
      go_wp2_with fail
      obtain ⟨dz, ez⟩ := lay_all w [.inr d, .inl (.cells #[.int .u64 (nt r 0 : Int), .int .u64 (nt r 1 : Int), .int .u64 (nt r 2 : Int), .int .u64 (nt r 3 : Int)] 241 (0, 0)), .inl (.cells (nuA r) 241 (0, 0))]
      exact bodyPost_ret (v := .agg #[.int .u64 (nt r 0 : Int), .int .u64 (nt r 1 : Int), .int .u64 (nt r 2 : Int), .int .u64 (nt r 3 : Int)]) (by simp [results, Tryz.results246, go_sem]) rfl ⟨r, dz, rfl, ez, HS.out.wd, t, HS.out.done⟩
    · rw [show ((i + 1 : Nat) : Int) - 1 = (i : Int) by omega]
      have hi : i < 4 := by omega
      have x0 : (0 : Int) ≤ (i : Int) := by omega
      have x1 : (i : Int) < 4 := by omega
      have x2 : (i : Int).toNat = i := by omega
      obtain ⟨X, hX⟩ : ∃ X, nt r i = X := ⟨_, rfl⟩
      have g0 := nuA_get (l := r) (i := i) (by rw [hS.wd.len]; exact hi)
      rw [hX] at g0
      have hXl : X < 18446744073709551616 := by rw [← hX]; exact hS.wd.lt i
      obtain ⟨HI, LO, SS, CC, hLO, hSS, hCC, hHC, e1, e2, e3, e4, e5, e6⟩ := mul_word (x := X) (n := n) (t := t) hXl hS.tn hn
      have HM := Lib.hid (fun W => Tryz.bits_Mul64 X n hXl hn W)
      rw [e1, e2] at HM
      have hcall : ∀ W, (callFunc 291 #[.int .u64 (LO : Int), .int .u64 (t : Int), .int .u64 0]).run Tryz.prog W = .ok (.value (.tuple #[.int .u64 (SS : Int), .int .u64 (CC : Int)])) W := fun W => by
        have := add64 LO t 0 (by omega) W
        rw [e3, e4] at this
        exact this
      have kHC : IntKind.u64.wrap ((HI : Int) + (CC : Int)) = (HI : Int) + (CC : Int) := IntWalk.u64_in _ (by omega)
      have HN := Lib.hid (hS.step ha hi hSS e6 (by rw [hX]; exact e5))
      clear hS e1 e2 e3 e4 e5 e6 hX hXl
      go_wp2_with (go_at_call 79; refine (HM.out _).mono ?_; rintro e w' ⟨rfl, hw⟩; rw [hw])
      rw [nuA_set]
      go_roundw
      case rel => exact ⟨i, HI + CC, r.set i SS, d, by omega, by first | rfl | exact congrArg (Value.int .u64) (by omega), rfl, rfl, HN.out⟩
      case measure => simp [intOf]
theorem lex_lt {B : Nat} {a b : List Nat} {n i : Nat} (ha : a.length = n) (hb : b.length = n) (la : ∀ x ∈ a, x < B) (lb : ∀ x ∈ b, x < B) (hi : i < n) (hB : 0 < B) (h : ∀ j, j < i → nt a j = nt b j) (hne : nt a i ≠ nt b i) : (valB B a < valB B b ↔ nt a i < nt b i) := by
  have key : ∀ k, k ≤ i → valB B a + valB B (b.drop k) = valB B b + valB B (a.drop k) := by
    intro k
    induction k with
    | zero => intro _; rw [List.drop_zero, List.drop_zero]; omega
    | succ k ih =>
      intro hk
      have := ih (by omega)
      rw [valB_drop (l := b) (by omega), valB_drop (l := a) (by omega), h k (by omega), ha, hb] at this
      omega
  have h1 := key i (Nat.le_refl i)
  rw [valB_drop (l := b) (by omega), valB_drop (l := a) (by omega), ha, hb] at h1
  have ua := valB_lt hB (l := a.drop (i + 1)) (fun x hx => la x (List.mem_of_mem_drop hx))
  have ub := valB_lt hB (l := b.drop (i + 1)) (fun x hx => lb x (List.mem_of_mem_drop hx))
  rw [List.length_drop, ha] at ua
  rw [List.length_drop, hb] at ub
  have ep : n - (i + 1) = n - i - 1 := by omega
  rw [ep] at ua ub
  generalize B ^ (n - i - 1) = P at *
  generalize valB B (a.drop (i + 1)) = u at *
  generalize valB B (b.drop (i + 1)) = v at *
  generalize valB B a = A at *
  generalize valB B b = C at *
  rcases Nat.lt_or_gt_of_ne hne with g | g
  · have := Nat.mul_le_mul_right P (show nt a i + 1 ≤ nt b i from g)
    rw [Nat.add_mul] at this
    constructor <;> intro _ <;> omega
  · have := Nat.mul_le_mul_right P (show nt b i + 1 ≤ nt a i from g)
    rw [Nat.add_mul] at this
    constructor <;> intro _ <;> omega
theorem lex_eq {B : Nat} {a b : List Nat} (ha : a.length = 4) (hb : b.length = 4) (h : ∀ j, j < 4 → nt a j = nt b j) : valB B a = valB B b := by
  have : a = b := by
    refine List.ext_getElem (by omega) fun i h1 h2 => ?_
    have := h i (by omega)
    unfold nt at this
    simpa [List.getD, h1, h2] using this
  rw [this]
theorem qn_less (a b : List Nat) (ha : Wd 4 a) (hb : Wd 4 b) (w : World) :
    Calls Tryz.prog 247 #[nuV a, nuV b] w fun e w' => e = .returned (.bool (decide (val4 a < val4 b))) ∧ ∃ d, w' = bw w d := by
  refine lay_start ?_
  unfold nuV
  go_enter Tryz.func247, Tryz.ntmps247
  go_wp2_with fail
  rw [← nuA_four ha.len, ← nuA_four hb.len]
  go_loopw [6] (fun v6 wr => ∃ (k : Nat) (d : Ext), k ≤ 4 ∧ v6 = .int .i64 (k : Int) ∧ wr = lay w [.inr d, .inl (.cells (nuA b) 241 (0, 0)), .inl (.cells (nuA a) 241 (0, 0))] ∧ ∀ j, j < k → nt a j = nt b j) (fun v6 _ => 4 - (intOf v6).toNat)
  case atStart => exact ⟨0, noExt _, by omega, rfl, (bw_noExt _).symm, fun j hj => by omega⟩
  case round =>
    obtain ⟨k, d, hk, rfl, rfl, hS⟩ := hrel
    have HS := Lib.hid hS
    by_cases hk4 : k = 4
    · subst hk4
      have hv := lex_eq (B := 18446744073709551616) ha.len hb.len hS
      have hd : decide (val4 a < val4 b) = false := decide_eq_false (by unfold val4; omega)
      have HD := Lib.hid hd
      clear hS hv hd
      go_wp2_with fail
      go_ret
      exact ⟨by rw [HD.out]; rfl, lay_ex _ _⟩
    · have hi : k < 4 := by omega
      have x0 : (0 : Int) ≤ (k : Int) := by omega
      have x1 : (k : Int) < 4 := by omega
      have x2 : (k : Int).toNat = k := by omega
      obtain ⟨X, hX⟩ : ∃ X, nt a k = X := ⟨_, rfl⟩
      obtain ⟨Y, hY⟩ : ∃ Y, nt b k = Y := ⟨_, rfl⟩
      have g0 := nuA_get (l := a) (i := k) (by rw [ha.len]; exact hi)
      have g1 := nuA_get (l := b) (i := k) (by rw [hb.len]; exact hi)
      rw [hX] at g0
      rw [hY] at g1
      by_cases hne : X = Y
      · subst hne
        have e1 : ((X : Int) != (X : Int)) = false := by simp
        have HN : Hid (∀ j, j < k + 1 → nt a j = nt b j) := Lib.hid fun j hj => by
          by_cases h : j = k
          · subst h; rw [hX, hY]
          · exact HS.out j (by omega)
        clear hS hX hY
        go_wp2_with fail
        refine region_bw (by kernel_rfl) (by kernel_rfl) ?_
        repeat (go_big_quiet_step ((first | fail)))
        refine wpQuiet_nil ?_
        rintro w' ⟨dq, rfl⟩
        rw [lay_bw]
        go_wp2_with fail
        obtain ⟨d3, e3⟩ := lay_fold w [.inr dq, .inr d] [.inl (.cells (nuA b) 241 (0, 0)), .inl (.cells (nuA a) 241 (0, 0))]
        change lay w [.inr dq, .inr d, .inl (.cells (nuA b) 241 (0, 0)), .inl (.cells (nuA a) 241 (0, 0))] = _ at e3
        rw [e3]
        go_roundw
        case rel => exact ⟨k + 1, d3, by omega, by first | rfl | exact congrArg (Value.int .i64) (by omega), rfl, HN.out⟩
        case measure => simp [intOf]; omega
      · have e1 : ((X : Int) != (Y : Int)) = true := by simp; omega
        have hl := lex_lt (B := 18446744073709551616) ha.len hb.len ha.mem hb.mem hi (by decide) hS (by rw [hX, hY]; exact hne)
        rw [hX, hY] at hl
        have HD : Hid (decide (X < Y) = decide (val4 a < val4 b)) := Lib.hid (decide_eq_decide.2 (by unfold val4; rw [hl]))
        clear hS hX hY hl
        go_wp2_with fail
        refine region_bw (by kernel_rfl) (by kernel_rfl) ?_
        repeat (go_big_quiet_step ((first | fail)))
        refine wpQuiet_nil ?_
        rintro w' ⟨dq, rfl⟩
        rw [lay_bw]
        go_wp2_with fail
        refine region_bw (by kernel_rfl) (by kernel_rfl) ?_
        repeat (go_big_quiet_step ((first | fail)))
        refine wpQuiet_nil ?_
        rintro w' ⟨dr, rfl⟩
        rw [lay_bw]
        go_wp2_with fail
        go_ret
        exact ⟨by rw [← HD.out]; rfl, lay_ex _ _⟩
end Go.Proofs.YtnnmfdeeicpdlaaGreat
/- Numbers of an integral part and three words of the fraction: products. -/
namespace Go.Proofs.YtnnmfdeeicpdlaaGreat
open Go.RowKit

structure RowF (a b : List Nat) (i V0 : Nat) (o : List Nat) (j c : Nat) : Prop where
  wd : Wd 8 o
  cB : c < 18446744073709551616
  zero : ∀ q, q ≤ i → nt o q = 0
  eq : valB 18446744073709551616 o + c * 18446744073709551616 ^ (7 - (i + j)) = V0 + nt a i * valB 18446744073709551616 (b.drop j) * 18446744073709551616 ^ (3 - i)
theorem RowF.start {a b o : List Nat} {i : Nat} (hb : Wd 4 b) (h : Wd 8 o) (hz : ∀ q, q ≤ i → nt o q = 0) : RowF a b i (valB 18446744073709551616 o) o 4 0 := ⟨h, by decide, hz, by
  rw [List.drop_eq_nil_of_le (by rw [hb.len]; exact Nat.le_refl 4)]
  simp [valB]⟩
theorem row_eq {B V V' V0 ai bj W R Q P s op c c' : Nat} (h : V + c * P = V0 + ai * W * Q) (hs : V' + op * P = V + s * P) (e : s + c' * B = op + ai * bj + c) (hP : R * Q = P) : V' + c' * (P * B) = V0 + ai * (bj * R + W) * Q := by
  have e2 : (s + c' * B) * P = (op + ai * bj + c) * P := by rw [e]
  subst hP
  grind
theorem RowF.step {a b o : List Nat} {i V0 j c s c' : Nat} (h : RowF a b i V0 o (j + 1) c) (hb : Wd 4 b) (hi : i < 4) (hj : j < 4) (hsB : s < 18446744073709551616) (hc : c' < 18446744073709551616) (e : s + c' * 18446744073709551616 = nt o (i + j + 1) + nt a i * nt b j + c) : RowF a b i V0 (o.set (i + j + 1) s) j c' := by
  refine ⟨h.wd.set (by omega) hsB, hc, fun q hq => ?_, ?_⟩
  · rw [nt_set (by rw [h.wd.len]; omega), if_neg (by omega)]
    exact h.zero q hq
  · have hv := valB_set (B := 18446744073709551616) (x := s) (l := o) (p := i + j + 1) (by rw [h.wd.len]; omega)
    have he := h.eq
    rw [h.wd.len, show 8 - (i + j + 1) - 1 = 7 - (i + (j + 1)) by omega] at hv
    rw [valB_drop (l := b) (by rw [hb.len]; exact hj), hb.len, show 7 - (i + j) = 7 - (i + (j + 1)) + 1 by omega, Nat.pow_succ]
    exact row_eq he hv e (by rw [← Nat.pow_add]; congr 1; omega)
theorem RowF.done {a b o : List Nat} {i V0 c : Nat} (h : RowF a b i V0 o 0 c) (hi : i < 4) : Wd 8 (o.set i c) ∧ (∀ q, q < i → nt (o.set i c) q = 0) ∧ valB 18446744073709551616 (o.set i c) = V0 + nt a i * val4 b * 18446744073709551616 ^ (3 - i) := by
  refine ⟨h.wd.set (by omega) h.cB, fun q hq => ?_, ?_⟩
  · rw [nt_set (by rw [h.wd.len]; omega), if_neg (by omega)]
    exact h.zero q (by omega)
  · have hv := valB_set (B := 18446744073709551616) (x := c) (l := o) (p := i) (by rw [h.wd.len]; omega)
    have he := h.eq
    rw [h.wd.len, h.zero i (Nat.le_refl i), show 8 - i - 1 = 7 - (i + 0) by omega] at hv
    rw [List.drop_zero] at he
    unfold val4
    omega
theorem zero8 : Wd 8 [0, 0, 0, 0, 0, 0, 0, 0] ∧ valB 18446744073709551616 [0, 0, 0, 0, 0, 0, 0, 0] = 0 := ⟨⟨rfl, fun i => by
  unfold nt
  rcases i with _ | _ | _ | _ | _ | _ | _ | _ | i <;> simp [List.getD]⟩, by simp [valB]⟩
theorem zero8_nt (q : Nat) : nt [0, 0, 0, 0, 0, 0, 0, 0] q = 0 := by
  unfold nt
  rcases q with _ | _ | _ | _ | _ | _ | _ | _ | q <;> simp [List.getD]
theorem zero8_cells : (#[.int .u64 0, .int .u64 0, .int .u64 0, .int .u64 0, .int .u64 0, .int .u64 0, .int .u64 0, .int .u64 0] : Array Value) = nuA [0, 0, 0, 0, 0, 0, 0, 0] := rfl
theorem mid_eq {B o0 o1 o2 o3 o4 o5 o6 o7 : Nat} (h5 : o5 < B) (h6 : o6 < B) (h7 : o7 < B) (hlt : o0 * B ^ 7 + (o1 * B ^ 6 + (o2 * B ^ 5 + (o3 * B ^ 4 + (o4 * B ^ 3 + (o5 * B ^ 2 + (o6 * B + o7)))))) < B ^ 7) : o1 * B ^ 3 + (o2 * B ^ 2 + (o3 * B + o4)) = (o0 * B ^ 7 + (o1 * B ^ 6 + (o2 * B ^ 5 + (o3 * B ^ 4 + (o4 * B ^ 3 + (o5 * B ^ 2 + (o6 * B + o7))))))) / B ^ 3 := by
  have hB : 0 < B := by omega
  have h0 : o0 = 0 := by
    rcases Nat.eq_zero_or_pos o0 with h | h
    · exact h
    · have := Nat.mul_le_mul_right (B ^ 7) h
      omega
  subst h0
  have hb : o5 * B ^ 2 + (o6 * B + o7) < B ^ 3 := by
    have h1 := Nat.mul_le_mul_right (B ^ 2) (show o5 + 1 ≤ B from h5)
    have h2 := Nat.mul_le_mul_right B (show o6 + 1 ≤ B from h6)
    have e3 : B ^ 3 = B * B ^ 2 := by rw [Nat.pow_succ, Nat.mul_comm]
    have e2 : B ^ 2 = B * B := by rw [Nat.pow_succ, Nat.pow_one]
    rw [e3]
    rw [Nat.add_mul] at h1 h2
    rw [e2] at h1 ⊢
    omega
  have e : 0 * B ^ 7 + (o1 * B ^ 6 + (o2 * B ^ 5 + (o3 * B ^ 4 + (o4 * B ^ 3 + (o5 * B ^ 2 + (o6 * B + o7)))))) = (o5 * B ^ 2 + (o6 * B + o7)) + (o1 * B ^ 3 + (o2 * B ^ 2 + (o3 * B + o4))) * B ^ 3 := by grind
  rw [e, Nat.add_mul_div_right _ _ (Nat.pow_pos hB), Nat.div_eq_of_lt hb, Nat.zero_add]
theorem mid4 {o : List Nat} (h : Wd 8 o) (hlt : valB 18446744073709551616 o < 18446744073709551616 ^ 7) : Wd 4 ((o.drop 1).take 4) ∧ val4 ((o.drop 1).take 4) = valB 18446744073709551616 o / 18446744073709551616 ^ 3 ∧ ∀ i, i < 4 → nt ((o.drop 1).take 4) i = nt o (i + 1) := by
  obtain ⟨hl, hw⟩ := h
  match o, hl with
  | [o0, o1, o2, o3, o4, o5, o6, o7], _ =>
    have w1 : o1 < 18446744073709551616 := hw 1
    have w2 : o2 < 18446744073709551616 := hw 2
    have w3 : o3 < 18446744073709551616 := hw 3
    have w4 : o4 < 18446744073709551616 := hw 4
    have w5 : o5 < 18446744073709551616 := hw 5
    have w6 : o6 < 18446744073709551616 := hw 6
    have w7 : o7 < 18446744073709551616 := hw 7
    refine ⟨⟨rfl, fun i => ?_⟩, ?_, fun i hi => ?_⟩
    · show nt [o1, o2, o3, o4] i < _
      unfold nt
      rcases i with _ | _ | _ | _ | i
      · exact w1
      · exact w2
      · exact w3
      · exact w4
      · simp [List.getD]
    · show valB 18446744073709551616 [o1, o2, o3, o4] = _
      simp only [valB, List.length_cons, List.length_nil, Nat.zero_add, Nat.reduceAdd, Nat.pow_zero, Nat.mul_one, Nat.pow_one, Nat.add_zero] at hlt ⊢
      generalize 18446744073709551616 = B at *
      exact mid_eq w5 w6 w7 hlt
    · show nt [o1, o2, o3, o4] i = nt [o0, o1, o2, o3, o4, o5, o6, o7] (i + 1)
      rcases i with _ | _ | _ | _ | i
      · rfl
      · rfl
      · rfl
      · rfl
      · omega
end Go.Proofs.YtnnmfdeeicpdlaaGreat
/- Numbers of an integral part and three words of the fraction: the walk of the product. -/
namespace Go.Proofs.YtnnmfdeeicpdlaaGreat
open Go.RowKit

set_option maxHeartbeats 4000000 in
set_option maxRecDepth 100000 in
theorem qn_mul (a b : List Nat) (ha : Wd 4 a) (hb : Wd 4 b) (hab : val4 a * val4 b < 18446744073709551616 ^ 7) (w : World) :
    Calls Tryz.prog 289 #[nuV a, nuV b] w fun e w' => ∃ r d, e = .returned (nuV r) ∧ w' = bw w d ∧ Wd 4 r ∧ val4 r = val4 a * val4 b / 18446744073709551616 ^ 3 := by
  refine lay_start ?_
  have HLT := Lib.hid hab
  clear hab
  unfold nuV
  go_enter Tryz.func289, Tryz.ntmps289
  go_wp2_with fail
  rw [← nuA_four ha.len, ← nuA_four hb.len, zero8_cells]
  go_loopw [6, 7, 8, 9, 10, 11] (fun v6 _ _ _ _ _ wr => ∃ (k : Nat) (o : List Nat) (d : Ext), k ≤ 4 ∧ v6 = .int .i64 ((k : Int) - 1) ∧ wr = lay w [.inr d, .inl (.cells (nuA o) 298 (0, 0)), .inl (.cells #[.int .u64 0, .int .u64 0, .int .u64 0, .int .u64 0] 241 (0, 0)), .inl (.cells (nuA b) 241 (0, 0)), .inl (.cells (nuA a) 241 (0, 0))] ∧ Wd 8 o ∧ (∀ q, q < k → nt o q = 0) ∧ valB 18446744073709551616 o = valB 18446744073709551616 (a.drop k) * val4 b) (fun v6 _ _ _ _ _ _ => (intOf v6 + 1).toNat)
  case atStart => exact ⟨4, _, noExt _, Nat.le_refl _, rfl, (bw_noExt _).symm, zero8.1, fun q _ => zero8_nt q, by rw [zero8.2, List.drop_eq_nil_of_le (by rw [ha.len]; exact Nat.le_refl 4)]; simp [valB]⟩
  case round =>
    obtain ⟨k, o, d, hk, rfl, rfl, ho, hz, hV⟩ := hrel
    have HO := Lib.hid (And.intro ho (And.intro hz hV))
    clear ho hz hV
    rcases k with _ | i
    · rw [show ((0 : Nat) : Int) - 1 = -1 from rfl]
      have hT := mid4 HO.out.1 (by rw [HO.out.2.2, List.drop_zero]; exact HLT.out)
      have hv : val4 ((o.drop 1).take 4) = val4 a * val4 b / 18446744073709551616 ^ 3 := by
        rw [hT.2.1, HO.out.2.2, List.drop_zero]; rfl
      have g0 := nuA_get (l := o) (i := 1) (by rw [HO.out.1.len]; decide)
      have g1 := nuA_get (l := o) (i := 2) (by rw [HO.out.1.len]; decide)
      have g2 := nuA_get (l := o) (i := 3) (by rw [HO.out.1.len]; decide)
      have g3 := nuA_get (l := o) (i := 4) (by rw [HO.out.1.len]; decide)
      rw [← hT.2.2 0 (by decide)] at g0
      rw [← hT.2.2 1 (by decide)] at g1
      rw [← hT.2.2 2 (by decide)] at g2
      rw [← hT.2.2 3 (by decide)] at g3
      have HE := Lib.hid (And.intro hT.1 hv)
      have hat : ∀ W, (Instr.arrayAt 241 (.slice (some ⟨posn w [1, 1, 1], 1, none⟩) 4 7)).run Tryz.prog W = .ok (.pointer (some ⟨posn w [1, 1, 1], 1, none⟩)) W := fun W => run_arrayAt W 241 _ 4 _ 4 7 Tryz.underlying241 (by decide)
      clear hT hv
      generalize (o.drop 1).take 4 = r at *
      go_wp2_with fail
      obtain ⟨dz, ez⟩ := lay_all w [.inr d, .inl (.cells (nuA o) 298 (0, 0)), .inl (.cells #[.int .u64 (nt r 0 : Int), .int .u64 (nt r 1 : Int), .int .u64 (nt r 2 : Int), .int .u64 (nt r 3 : Int)] 241 (0, 0)), .inl (.cells (nuA b) 241 (0, 0)), .inl (.cells (nuA a) 241 (0, 0))]
      exact bodyPost_ret (v := .agg #[.int .u64 (nt r 0 : Int), .int .u64 (nt r 1 : Int), .int .u64 (nt r 2 : Int), .int .u64 (nt r 3 : Int)]) (by simp [results, Tryz.results289, go_sem]) rfl ⟨r, dz, rfl, ez, HE.out.1, HE.out.2⟩
    · rw [show ((i + 1 : Nat) : Int) - 1 = (i : Int) by omega]
      have hi : i < 4 := by omega
      have x0 : (0 : Int) ≤ (i : Int) := by omega
      have x1 : (i : Int) < 4 := by omega
      have x3 : (i : Int) < 8 := by omega
      have x2 : (i : Int).toNat = i := by omega
      go_wp2_with fail
      go_loopw [7, 8, 9, 10, 11] (fun v7 v8 _ _ _ wr => ∃ (k c : Nat) (o : List Nat) (d : Ext), k ≤ 4 ∧ v7 = .int .u64 (c : Int) ∧ v8 = .int .i64 ((k : Int) - 1) ∧ wr = lay w [.inr d, .inl (.cells (nuA o) 298 (0, 0)), .inl (.cells #[.int .u64 0, .int .u64 0, .int .u64 0, .int .u64 0] 241 (0, 0)), .inl (.cells (nuA b) 241 (0, 0)), .inl (.cells (nuA a) 241 (0, 0))] ∧ RowF a b i (valB 18446744073709551616 (a.drop (i + 1)) * val4 b) o k c) (fun _ v8 _ _ _ _ => (intOf v8 + 1).toNat)
      case atStart =>
        have hs := RowF.start (a := a) (b := b) (i := i) hb HO.out.1 (fun q hq => HO.out.2.1 q (by omega))
        rw [HO.out.2.2] at hs
        exact ⟨4, 0, o, d, Nat.le_refl _, rfl, rfl, rfl, hs⟩
      case round =>
        obtain ⟨k, c, o, dd, hk, rfl, rfl, rfl, hR⟩ := hrel
        have HR := Lib.hid hR
        clear hR HO
        rcases k with _ | j
        · rw [show ((0 : Nat) : Int) - 1 = -1 from rfl]
          have hD := HR.out.done hi
          have e1 : valB 18446744073709551616 (a.drop (i + 1)) * val4 b + nt a i * val4 b * 18446744073709551616 ^ (3 - i) = valB 18446744073709551616 (a.drop i) * val4 b := by
            rw [valB_drop (l := a) (i := i) (by rw [ha.len]; exact hi), ha.len, show 4 - i - 1 = 3 - i by omega]
            generalize 18446744073709551616 ^ (3 - i) = P
            grind
          rw [e1] at hD
          have HD := Lib.hid hD
          have g0 := nuA_get (l := o) (i := i) (by rw [HR.out.wd.len]; omega)
          rw [HR.out.zero i (Nat.le_refl i)] at g0
          have hc : c < 18446744073709551616 := HR.out.cB
          have kc : IntKind.u64.wrap (c : Int) = (c : Int) := IntWalk.u64_in _ (by omega)
          clear HR hD e1
          go_wp2_with fail
          rw [nuA_set]
          exact ⟨⟨i, o.set i c, dd, by omega, rfl, rfl, HD.out⟩, by simp [intOf]⟩
        · rw [show ((j + 1 : Nat) : Int) - 1 = (j : Int) by omega]
          have hj : j < 4 := by omega
          have y0 : (0 : Int) ≤ (j : Int) := by omega
          have y1 : (j : Int) < 4 := by omega
          have y2 : (j : Int).toNat = j := by omega
          have w1 : IntKind.i64.wrap ((i : Int) + (j : Int)) = (i : Int) + (j : Int) := IntWalk.i64_in _ (by omega)
          have w2 : IntKind.i64.wrap ((i : Int) + (j : Int) + 1) = (i : Int) + (j : Int) + 1 := IntWalk.i64_in _ (by omega)
          have w4 : (0 : Int) ≤ (i : Int) + (j : Int) + 1 := by omega
          have w5 : (i : Int) + (j : Int) + 1 < 8 := by omega
          have w6 : ((i : Int) + (j : Int) + 1).toNat = i + j + 1 := by omega
          obtain ⟨X, hX⟩ : ∃ X, nt a i = X := ⟨_, rfl⟩
          obtain ⟨Y, hY⟩ : ∃ Y, nt b j = Y := ⟨_, rfl⟩
          obtain ⟨O, hO⟩ : ∃ O, nt o (i + j + 1) = O := ⟨_, rfl⟩
          have g0 := nuA_get (l := a) (i := i) (by rw [ha.len]; exact hi)
          have g1 := nuA_get (l := b) (i := j) (by rw [hb.len]; exact hj)
          have g2 := nuA_get (l := o) (i := i + j + 1) (by rw [HR.out.wd.len]; omega)
          rw [hX] at g0
          rw [hY] at g1
          rw [hO] at g2
          have hXl : X < 18446744073709551616 := by rw [← hX]; exact ha.lt i
          have hYl : Y < 18446744073709551616 := by rw [← hY]; exact hb.lt j
          obtain ⟨HI, LO, S1, C1, S2, C2, e1, e2, e3, e4, e5, e6, hC1, hC2, hS2, hS1, hLO, hH, e7⟩ := row_word (x := X) (y := Y) (o := O) (c := c) (B := 18446744073709551616) hXl hYl (by rw [← hO]; exact HR.out.wd.lt _) HR.out.cB
          have HM := Lib.hid (one_call (fun W => Tryz.bits_Mul64 X Y hXl hYl W))
          rw [e1, e2] at HM
          have hcall1 : ∀ W, (callFunc 291 #[.int .u64 (LO : Int), .int .u64 (O : Int), .int .u64 0]).run Tryz.prog W = .ok (.value (.tuple #[.int .u64 (S1 : Int), .int .u64 (C1 : Int)])) W := fun W => by
            have := add64 LO O 0 (by omega) W
            rw [Nat.add_comm LO O, e3, e4] at this
            exact this
          have hcall2 : ∀ W, (callFunc 291 #[.int .u64 (S1 : Int), .int .u64 (c : Int), .int .u64 0]).run Tryz.prog W = .ok (.value (.tuple #[.int .u64 (S2 : Int), .int .u64 (C2 : Int)])) W := fun W => by
            have := add64 S1 c 0 (by omega) W
            rw [e5, e6] at this
            exact this
          have kH1 : IntKind.u64.wrap ((HI : Int) + (C1 : Int)) = (HI : Int) + (C1 : Int) := IntWalk.u64_in _ (by omega)
          have kH2 : IntKind.u64.wrap ((HI : Int) + (C1 : Int) + (C2 : Int)) = (HI : Int) + (C1 : Int) + (C2 : Int) := IntWalk.u64_in _ (by omega)
          have HN := Lib.hid (HR.out.step hb hi hj hS2 hH (by rw [hX, hY, hO]; omega))
          clear HR e1 e2 e3 e4 e5 e6 e7 hX hY hO hXl hYl
          go_wp2_with fail
          refine region_mixW [0, 0, 0, 0, 0, 0, 0, 0, 0, 0, 0, 0] (by kernel_rfl) (by kernel_rfl) (by kernel_rfl) ?_
          repeat (first | (refine wpM_quiet (fun K hK => ?_); go_simp; first | (refine hK _ ?_; clear hK K) | (apply Exists.intro; refine ⟨fun _ => ?_, hK _ ?_⟩; (first | (go_at_call 79; exact bq (HM.out _) (fun d => ⟨d, rfl⟩))); clear hK K)) | (refine wpM_special (fun K hK d => ?_); go_simp; refine hK _ _ (by first | exact lay_in w [_] _ | exact lay_in w [_, _] _ | exact lay_in w [_, _, _] _ | exact lay_in w [_, _, _, _] _ | exact lay_in w [_, _, _, _, _] _ | exact lay_in w [_, _, _, _, _, _] _) ?_; clear hK K))
          refine wpM_nil ?_
          intro d
          rw [lay_bw]
          go_wp2_with fail
          rw [nuA_set]
          obtain ⟨d3, e3⟩ := lay_fold w [.inr d, .inr dd] [.inl (.cells (nuA (o.set (i + j + 1) S2)) 298 (0, 0)), .inl (.cells #[.int .u64 0, .int .u64 0, .int .u64 0, .int .u64 0] 241 (0, 0)), .inl (.cells (nuA b) 241 (0, 0)), .inl (.cells (nuA a) 241 (0, 0))]
          change lay w [.inr d, .inr dd, .inl (.cells (nuA (o.set (i + j + 1) S2)) 298 (0, 0)), .inl (.cells #[.int .u64 0, .int .u64 0, .int .u64 0, .int .u64 0] 241 (0, 0)), .inl (.cells (nuA b) 241 (0, 0)), .inl (.cells (nuA a) 241 (0, 0))] = _ at e3
          rw [e3]
          exact ⟨⟨j, HI + C1 + C2, o.set (i + j + 1) S2, d3, by omega, by first | rfl | exact congrArg (Value.int .u64) (by omega), rfl, rfl, HN.out⟩, by simp [intOf]⟩
end Go.Proofs.YtnnmfdeeicpdlaaGreat
/- The comparison of arrays of four words with zero. -/
namespace Go.Proofs.YtnnmfdeeicpdlaaGreat
open Go.RowKit

theorem part_u64 {xs : Array Value} {off : Nat} {v : Value} (hx : xs[off]? = some v) (W : World) : (part 132 xs off).run Tryz.prog W = .ok v W := run_part_plain W (by kernel_rfl) hx
theorem eql_u64 (d : Nat) (a b : Int) (W : World) : (Op.equalIn (d + 1) 132 (.int .u64 a) (.int .u64 b)).run Tryz.prog W = .ok (a == b) W := run_equalIn_int W d _ _ _ a b Tryz.underlying132
set_option maxRecDepth 100000 in
theorem neq_num (x0 x1 x2 x3 : Int) (W : World) : (binOp .neq 241 (.agg #[.int .u64 x0, .int .u64 x1, .int .u64 x2, .int .u64 x3]) (.agg #[.int .u64 0, .int .u64 0, .int .u64 0, .int .u64 0])).run Tryz.prog W = .ok (.bool (!(x0 == 0 && (x1 == 0 && (x2 == 0 && x3 == 0))))) W := by
  obtain ⟨i, hi⟩ : ∃ i, Tryz.prog.info? 132 = some i := ⟨_, rfl⟩
  have hc : Tryz.prog.cellsOf 132 = 1 := by kernel_rfl
  rw [run_neq_struct, run_equalIn_array W 9999 _ _ Tryz.underlying241 hi, hc]
  have hr : List.range 4 = [0, 1, 2, 3] := rfl
  rw [hr]
  have e := eql_u64 9998
  simp only [Op.eqItems, Sem.run_bind]
  rw [part_u64 (v := .int .u64 x0) rfl]
  simp only [Result.andThen_ok]
  rw [part_u64 (v := .int .u64 0) rfl]
  simp only [Result.andThen_ok]
  rw [e]
  cases h0 : (x0 == 0)
  · simp [Result.andThen]
  · simp only [Result.andThen_ok, Bool.not_true, Bool.false_eq_true, if_false, Bool.true_and, Sem.run_bind]
    rw [part_u64 (v := .int .u64 x1) rfl]
    simp only [Result.andThen_ok]
    rw [part_u64 (v := .int .u64 0) rfl]
    simp only [Result.andThen_ok]
    rw [e]
    cases h1 : (x1 == 0)
    · simp [Result.andThen]
    · simp only [Result.andThen_ok, Bool.not_true, Bool.false_eq_true, if_false, Bool.true_and, Sem.run_bind]
      rw [part_u64 (v := .int .u64 x2) rfl]
      simp only [Result.andThen_ok]
      rw [part_u64 (v := .int .u64 0) rfl]
      simp only [Result.andThen_ok]
      rw [e]
      cases h2 : (x2 == 0)
      · simp [Result.andThen]
      · simp only [Result.andThen_ok, Bool.not_true, Bool.false_eq_true, if_false, Bool.true_and, Sem.run_bind]
        rw [part_u64 (v := .int .u64 x3) rfl]
        simp only [Result.andThen_ok]
        rw [part_u64 (v := .int .u64 0) rfl]
        simp only [Result.andThen_ok]
        rw [e]
        cases h3 : (x3 == 0)
        · simp [Result.andThen]
        · simp [Result.andThen]
end Go.Proofs.YtnnmfdeeicpdlaaGreat
/- arctrig: pi, series. -/
namespace Go.Proofs.YtnnmfdeeicpdlaaGreat
set_option maxRecDepth 100000
open Go.RowKit

def piAL : List Nat := [3, 2611923443488327891, 1376283091369227076, 11820040416388919760]
theorem piAL_wd : Wd 4 piAL := ⟨rfl, fun i => by
  unfold piAL nt
  rcases i with _ | _ | _ | _ | i <;> simp [List.getD]⟩
theorem piAL_val : val4 piAL = piA := by decide +kernel
theorem ar_pi (w : World) : Calls Tryz.prog 287 #[] w fun e w' => e = .returned (nuV piAL) ∧ ∃ d, w' = bw w d := by
  refine lay_start ?_
  go_enter Tryz.func287, Tryz.ntmps287
  go_wp2_with fail
  exact bodyPost_ret (v := nuV piAL) (by simp [results, Tryz.results287, go_sem, nuV, piAL, nt]) rfl ⟨rfl, lay_ex _ _⟩
theorem sub_small {a b r c B : Nat} (h : r + b = a + c * B) (hc : c ≤ 1) (hr : r < B) (hle : b ≤ a) : r = a - b := by
  rcases (show c = 0 ∨ c = 1 by omega) with g | g
  · subst g; omega
  · subst g; omega
theorem add_small {a b r c B : Nat} (h : r + c * B = a + b) (hc : c ≤ 1) (hab : a + b < B) : r = a + b := by
  rcases (show c = 0 ∨ c = 1 by omega) with g | g
  · subst g; omega
  · subst g; omega
theorem m192_B4 : m192 < 18446744073709551616 ^ 4 := by decide +kernel
theorem limbs_zero {t : List Nat} (h : Wd 4 t) (h0 : val4 t = 0) : nt t 0 = 0 ∧ nt t 1 = 0 ∧ nt t 2 = 0 ∧ nt t 3 = 0 := by
  obtain ⟨hl, hw⟩ := h
  match t, hl with
  | [a, b, c, d], _ =>
    unfold val4 at h0
    simp only [valB, List.length_cons, List.length_nil, Nat.zero_add, Nat.reduceAdd, Nat.pow_zero, Nat.mul_one, Nat.pow_one, Nat.add_zero] at h0
    show a = 0 ∧ b = 0 ∧ c = 0 ∧ d = 0
    omega
theorem limbs_some {t : List Nat} (h : Wd 4 t) (h0 : val4 t ≠ 0) : (nt t 0 ≠ 0) ∨ (nt t 0 = 0 ∧ nt t 1 ≠ 0) ∨ (nt t 0 = 0 ∧ nt t 1 = 0 ∧ nt t 2 ≠ 0) ∨ (nt t 0 = 0 ∧ nt t 1 = 0 ∧ nt t 2 = 0 ∧ nt t 3 ≠ 0) := by
  obtain ⟨hl, hw⟩ := h
  match t, hl with
  | [a, b, c, d], _ =>
    unfold val4 at h0
    simp only [valB, List.length_cons, List.length_nil, Nat.zero_add, Nat.reduceAdd, Nat.pow_zero, Nat.mul_one, Nat.pow_one, Nat.add_zero] at h0
    show a ≠ 0 ∨ (a = 0 ∧ b ≠ 0) ∨ (a = 0 ∧ b = 0 ∧ c ≠ 0) ∨ (a = 0 ∧ b = 0 ∧ c = 0 ∧ d ≠ 0)
    omega
structure SerI (sq F d0 : Nat) (fin : Int) (s t d k : Nat) (mi : Bool) : Prop where
  dk : d = d0 + 2 * k
  fuel : t * 2 ^ k ≤ m192
  fin1 : mi = true → fin = (s : Int) - ((t : Int) - altQ m192 sq 200 t d)
  fin2 : mi = false → fin = (s : Int) + ((t : Int) - altQ m192 sq 200 t d)
  bd1 : mi = true → t ≤ s ∧ s ≤ F
  bd2 : mi = false → s + t ≤ F
theorem m192_200 : m192 < 2 ^ 200 := by decide +kernel
theorem SerI.start {sq F d0 : Nat} (hF : F ≤ m192) : SerI sq F d0 (altQ m192 sq 200 F d0) F F d0 0 true := ⟨by omega, by omega, fun _ => by omega, fun h => (by cases h), fun _ => ⟨Nat.le_refl _, Nat.le_refl _⟩, fun h => (by cases h)⟩
theorem SerI.step {sq F d0 : Nat} {fin : Int} {s t d k : Nat} {mi : Bool} (h : SerI sq F d0 fin s t d k mi) (hs : sq ≤ m192) (hd : 1 ≤ d0) (_hF : F ≤ m192) (ht : 0 < t) :
    k ≤ 192 ∧ nexQ m192 sq t d * 2 ≤ t ∧ (mi = true → nexQ m192 sq t d ≤ s ∧ SerI sq F d0 fin (s - nexQ m192 sq t d) (nexQ m192 sq t d) (d + 2) (k + 1) false) ∧ (mi = false → s + nexQ m192 sq t d ≤ F ∧ SerI sq F d0 fin (s + nexQ m192 sq t d) (nexQ m192 sq t d) (d + 2) (k + 1) true) := by
  have hd1 : 1 ≤ d := by have := h.dk; omega
  have hn := nexQ_le (t := t) m192_pos hs hd1
  have hk : k ≤ 192 := by
    rcases Nat.lt_or_ge 192 k with g | g
    · have h1 : 2 ^ 193 ≤ 2 ^ k := Nat.pow_le_pow_right (by decide) g
      have h2 : 1 * 2 ^ k ≤ t * 2 ^ k := Nat.mul_le_mul_right _ ht
      have h3 := h.fuel
      have h4 : m192 < 2 ^ 193 := by decide +kernel
      omega
    · exact g
  have ht2 : t < 2 ^ 200 := by
    have h1 : t * 1 ≤ t * 2 ^ k := Nat.mul_le_mul_left t (Nat.pow_pos (by decide))
    have h3 := h.fuel
    have h4 := m192_200
    omega
  have ha := altQ_next m192_pos hs hd1 ht2
  have hf : nexQ m192 sq t d * 2 ^ (k + 1) ≤ m192 := by
    rw [Nat.pow_succ, Nat.mul_comm (2 ^ k), ← Nat.mul_assoc]
    exact Nat.le_trans (Nat.mul_le_mul_right _ hn) h.fuel
  generalize nexQ m192 sq t d = t' at *
  refine ⟨hk, hn, fun hm => ?_, fun hm => ?_⟩
  · have f1 := h.fin1 hm
    have b1 := h.bd1 hm
    refine ⟨by omega, by have := h.dk; omega, hf, fun h => (by cases h), fun _ => by omega, fun h => (by cases h), fun _ => by omega⟩
  · have f1 := h.fin2 hm
    have b1 := h.bd2 hm
    refine ⟨by omega, by have := h.dk; omega, hf, fun _ => by omega, fun h => (by cases h), fun _ => by omega, fun h => (by cases h)⟩
theorem SerI.done {sq F d0 : Nat} {fin : Int} {s d k : Nat} {mi : Bool} (h : SerI sq F d0 fin s 0 d k mi) : fin = (s : Int) := by
  cases mi
  · have := h.fin2 rfl
    rw [altQ_zero] at this
    omega
  · have := h.fin1 rfl
    rw [altQ_zero] at this
    omega
set_option maxHeartbeats 4000000 in
theorem ar_series (f q : List Nat) (n0 : Nat) (hf : Wd 4 f) (hq : Wd 4 q) (hf2 : val4 f ≤ m192) (hq2 : val4 q ≤ m192) (hn : n0 ≤ 1) (w : World) :
    Calls Tryz.prog 290 #[nuV f, nuV q, .int .u64 (n0 : Int)] w fun e w' => ∃ r d, e = .returned (nuV r) ∧ w' = bw w d ∧ Wd 4 r ∧ altQ m192 (val4 q) 200 (val4 f) (n0 + 1) = (val4 r : Int) := by
  have HSt := Lib.hid (SerI.start (sq := val4 q) (d0 := n0 + 1) hf2)
  generalize altQ m192 (val4 q) 200 (val4 f) (n0 + 1) = FIN at *
  refine lay_start ?_
  unfold nuV
  go_enter Tryz.func290, Tryz.ntmps290
  go_wp2_with fail
  refine region_mixW [0, 0, 2, 1, 1] (by kernel_rfl) (by kernel_rfl) (by kernel_rfl) ?_
  repeat (refine wpM_quiet (fun K hK => ?_); go_simp; first | (refine hK _ ?_; clear hK K) | (apply Exists.intro; refine ⟨fun _ => ?_, hK _ ?_⟩; (first | fail); clear hK K))
  refine wpM_two (fun J hJ d => ?_) (fun J hJ d => ?_)
  all_goals (go_simp; refine hJ _ _ (by first | exact lay_in w [_] _ | exact lay_in w [_, _] _ | exact lay_in w [_, _, _] _ | exact lay_in w [_, _, _, _] _ | exact lay_in w [_, _, _, _, _] _ | exact lay_in w [_, _, _, _, _, _] _) (fun K hK d => ?_); go_simp; refine hK _ _ (by first | exact lay_in w [_] _ | exact lay_in w [_, _] _ | exact lay_in w [_, _, _] _ | exact lay_in w [_, _, _, _] _ | exact lay_in w [_, _, _, _, _] _ | exact lay_in w [_, _, _, _, _, _] _) ?_; clear hK K hJ J)
  all_goals (repeat (first | (refine wpM_quiet (fun K hK => ?_); go_simp; first | (refine hK _ ?_; clear hK K) | (apply Exists.intro; refine ⟨fun _ => ?_, hK _ ?_⟩; (first | fail); clear hK K)) | (refine wpM_special (fun K hK d => ?_); go_simp; refine hK _ _ (by first | exact lay_in w [_] _ | exact lay_in w [_, _] _ | exact lay_in w [_, _, _] _ | exact lay_in w [_, _, _, _] _ | exact lay_in w [_, _, _, _, _] _ | exact lay_in w [_, _, _, _, _, _] _) ?_; clear hK K)))
  all_goals (refine wpM_nil ?_; intro d; rw [lay_bw])
  · rename_i e1 e2 e3 e4
    go_wp2_with fail
    obtain ⟨ee, hee⟩ := lay_fold w [.inr d, .inr e4, .inr e3] [.inl (.cells #[.int .u64 (nt f 0 : Int), .int .u64 (nt f 1 : Int), .int .u64 (nt f 2 : Int), .int .u64 (nt f 3 : Int)] 241 (0, 0)), .inr e2, .inl (.cells #[.int .u64 (nt f 0 : Int), .int .u64 (nt f 1 : Int), .int .u64 (nt f 2 : Int), .int .u64 (nt f 3 : Int)] 241 (0, 0)), .inr e1, .inl (.cells #[.int .u64 0, .int .u64 0, .int .u64 0, .int .u64 0] 241 (0, 0)), .inl (.cells #[.int .u64 (nt q 0 : Int), .int .u64 (nt q 1 : Int), .int .u64 (nt q 2 : Int), .int .u64 (nt q 3 : Int)] 241 (0, 0)), .inl (.cells #[.int .u64 (nt f 0 : Int), .int .u64 (nt f 1 : Int), .int .u64 (nt f 2 : Int), .int .u64 (nt f 3 : Int)] 241 (0, 0))]
    change lay w [.inr d, .inr e4, .inr e3, .inl (.cells #[.int .u64 (nt f 0 : Int), .int .u64 (nt f 1 : Int), .int .u64 (nt f 2 : Int), .int .u64 (nt f 3 : Int)] 241 (0, 0)), .inr e2, .inl (.cells #[.int .u64 (nt f 0 : Int), .int .u64 (nt f 1 : Int), .int .u64 (nt f 2 : Int), .int .u64 (nt f 3 : Int)] 241 (0, 0)), .inr e1, .inl (.cells #[.int .u64 0, .int .u64 0, .int .u64 0, .int .u64 0] 241 (0, 0)), .inl (.cells #[.int .u64 (nt q 0 : Int), .int .u64 (nt q 1 : Int), .int .u64 (nt q 2 : Int), .int .u64 (nt q 3 : Int)] 241 (0, 0)), .inl (.cells #[.int .u64 (nt f 0 : Int), .int .u64 (nt f 1 : Int), .int .u64 (nt f 2 : Int), .int .u64 (nt f 3 : Int)] 241 (0, 0))] = _ at hee
    rw [hee]
    clear hee
    go_loopw [2, 9] (fun v2 v9 wr => ∃ (s t : List Nat) (nn k : Nat) (mi : Bool) (e : Ext), v2 = .int .u64 (nn : Int) ∧ v9 = .bool mi ∧ wr = lay w [.inr e, .inl (.cells #[.int .u64 (nt t 0 : Int), .int .u64 (nt t 1 : Int), .int .u64 (nt t 2 : Int), .int .u64 (nt t 3 : Int)] 241 (0, 0)), .inr e2, .inl (.cells #[.int .u64 (nt s 0 : Int), .int .u64 (nt s 1 : Int), .int .u64 (nt s 2 : Int), .int .u64 (nt s 3 : Int)] 241 (0, 0)), .inr e1, .inl (.cells #[.int .u64 0, .int .u64 0, .int .u64 0, .int .u64 0] 241 (0, 0)), .inl (.cells #[.int .u64 (nt q 0 : Int), .int .u64 (nt q 1 : Int), .int .u64 (nt q 2 : Int), .int .u64 (nt q 3 : Int)] 241 (0, 0)), .inl (.cells #[.int .u64 (nt f 0 : Int), .int .u64 (nt f 1 : Int), .int .u64 (nt f 2 : Int), .int .u64 (nt f 3 : Int)] 241 (0, 0))] ∧ Wd 4 s ∧ Wd 4 t ∧ SerI (val4 q) (val4 f) (n0 + 1) FIN (val4 s) (val4 t) (nn + 1) k mi) (fun v2 _ _ => 400 - (intOf v2).toNat)
    case atStart => exact ⟨f, f, n0, 0, true, ee, rfl, rfl, rfl, hf, hf, HSt.out⟩
    case round =>
      obtain ⟨s, t, nn, k, mi, e, rfl, rfl, rfl, hs, ht, hS⟩ := hrel
      have HS := Lib.hid hS
      have HW := Lib.hid (And.intro hs ht)
      clear hS hs ht
      by_cases h0 : val4 t = 0
      · obtain ⟨z0, z1, z2, z3⟩ := limbs_zero HW.out.2 h0
        have hneq : ∀ W, (binOp .neq 241 (.agg #[.int .u64 (nt t 0 : Int), .int .u64 (nt t 1 : Int), .int .u64 (nt t 2 : Int), .int .u64 (nt t 3 : Int)]) (.agg #[.int .u64 0, .int .u64 0, .int .u64 0, .int .u64 0])).run Tryz.prog W = .ok (.bool false) W := fun W => by
          rw [neq_num, z0, z1, z2, z3]; rfl
        have hfin := HS.out
        rw [h0] at hfin
        have HF := Lib.hid (And.intro HW.out.1 hfin.done)
        clear hfin z0 z1 z2 z3 h0
        go_wp2_with fail
        obtain ⟨dz, ez⟩ := lay_all w [.inr e, .inl (.cells #[.int .u64 (nt t 0 : Int), .int .u64 (nt t 1 : Int), .int .u64 (nt t 2 : Int), .int .u64 (nt t 3 : Int)] 241 (0, 0)), .inr e2, .inl (.cells #[.int .u64 (nt s 0 : Int), .int .u64 (nt s 1 : Int), .int .u64 (nt s 2 : Int), .int .u64 (nt s 3 : Int)] 241 (0, 0)), .inr e1, .inl (.cells #[.int .u64 (nt s 0 : Int), .int .u64 (nt s 1 : Int), .int .u64 (nt s 2 : Int), .int .u64 (nt s 3 : Int)] 241 (0, 0)), .inl (.cells #[.int .u64 (nt q 0 : Int), .int .u64 (nt q 1 : Int), .int .u64 (nt q 2 : Int), .int .u64 (nt q 3 : Int)] 241 (0, 0)), .inl (.cells #[.int .u64 (nt f 0 : Int), .int .u64 (nt f 1 : Int), .int .u64 (nt f 2 : Int), .int .u64 (nt f 3 : Int)] 241 (0, 0))]
        exact bodyPost_ret (v := .agg #[.int .u64 (nt s 0 : Int), .int .u64 (nt s 1 : Int), .int .u64 (nt s 2 : Int), .int .u64 (nt s 3 : Int)]) (by simp [results, Tryz.results290, go_sem]) rfl ⟨s, dz, rfl, ez, HF.out.1, HF.out.2⟩
      · obtain ⟨hk, hn2, hT, hF⟩ := HS.out.step hq2 (by omega) hf2 (by omega)
        have hdk := HS.out.dk
        have hneq : ∀ W, (binOp .neq 241 (.agg #[.int .u64 (nt t 0 : Int), .int .u64 (nt t 1 : Int), .int .u64 (nt t 2 : Int), .int .u64 (nt t 3 : Int)]) (.agg #[.int .u64 0, .int .u64 0, .int .u64 0, .int .u64 0])).run Tryz.prog W = .ok (.bool true) W := fun W => by
          rw [neq_num]
          congr 2
          have := limbs_some HW.out.2 h0
          simp
          omega
        have ht192 : val4 t ≤ m192 := by
          have h1 : val4 t * 1 ≤ val4 t * 2 ^ k := Nat.mul_le_mul_left _ (Nat.pow_pos (by decide))
          have h3 := HS.out.fuel
          omega
        have hM := qn_mul t q HW.out.2 hq (by
          have h1 := Nat.mul_le_mul ht192 hq2
          have h2 : m192 * m192 < 18446744073709551616 ^ 7 := by decide +kernel
          omega)
        obtain ⟨D, hD⟩ : ∃ D, (nn + 1) * (nn + 1 + 1) = D := ⟨_, rfl⟩
        have hnn : nn ≤ 400 := by omega
        have hDb : 0 < D ∧ D < 1000000 := by
          have h1 := Nat.mul_le_mul (show nn + 1 ≤ 401 by omega) (show nn + 1 + 1 ≤ 402 by omega)
          have h2 : 0 < (nn + 1) * (nn + 1 + 1) := Nat.mul_pos (by omega) (by omega)
          omega
        have kn1 : IntKind.u64.wrap ((nn : Int) + 1) = (nn : Int) + 1 := IntWalk.u64_in _ (by omega)
        have kn2 : IntKind.u64.wrap ((nn : Int) + 2) = (nn : Int) + 2 := IntWalk.u64_in _ (by omega)
        have eD : ((nn : Int) + 1) * ((nn : Int) + 2) = (D : Int) := by rw [← hD]; push_cast; rfl
        have kD : IntKind.u64.wrap (((nn : Int) + 1) * ((nn : Int) + 2)) = (D : Int) := by rw [eD]; exact IntWalk.u64_in _ (by omega)
        unfold nuV at hM
        unfold nexQ at hT hF hn2
        rw [hD, m192_pow] at hT hF hn2
        have HT := Lib.hid (And.intro hT (And.intro hF hn2))
        clear hT hF hn2 eD hD h0 ht192
        go_wp2_with fail
        refine (hM _).mono ?_
        rintro xx w' ⟨r1, d1, rfl, rfl, hw1, hv1⟩
        rw [lay_bw]
        have hO := qn_over r1 D hw1 hDb.1 (by omega)
        unfold nuV at hO
        go_wp2_with fail
        refine (hO _).mono ?_
        rintro xx w' ⟨r2, d2, rfl, rfl, hw2, hv2⟩
        rw [hv1] at hv2
        have HT := HT.out
        rw [← hv2] at HT
        have HT := Lib.hid HT
        have HX := Lib.hid (And.intro hw2 (And.intro (val4_lt HW.out.1) (val4_lt hw2)))
        clear hw1 hv1 hw2 hv2 hM hO
        rw [lay_bw]
        cases mi
        · obtain ⟨hle, hnext⟩ := HT.out.2.1 rfl
          have HN := Lib.hid (And.intro hle hnext)
          clear hle hnext
          have hA := qn_add s r2 HW.out.1 HX.out.1
          unfold nuV at hA
          go_wp2_with fail
          refine (hA _).mono ?_
          rintro xx w' ⟨r3, d3, rfl, rfl, hw3, c, hc, hv3⟩
          have hv4 := add_small hv3 hc (Nat.lt_of_le_of_lt (Nat.le_trans HN.out.1 hf2) m192_B4)
          have hser := HN.out.2
          rw [← hv4] at hser
          have HZ := Lib.hid (And.intro hw3 hser)
          clear hw3 hc hv3 hv4 hser hA
          rw [lay_bw]
          go_wp2_with fail
          obtain ⟨df, hdf⟩ := lay_fold w [.inr d3, .inr d2, .inr d1, .inr e] [.inl (.cells #[.int .u64 (nt r2 0 : Int), .int .u64 (nt r2 1 : Int), .int .u64 (nt r2 2 : Int), .int .u64 (nt r2 3 : Int)] 241 (0, 0)), .inr e2, .inl (.cells #[.int .u64 (nt r3 0 : Int), .int .u64 (nt r3 1 : Int), .int .u64 (nt r3 2 : Int), .int .u64 (nt r3 3 : Int)] 241 (0, 0)), .inr e1, .inl (.cells #[.int .u64 0, .int .u64 0, .int .u64 0, .int .u64 0] 241 (0, 0)), .inl (.cells #[.int .u64 (nt q 0 : Int), .int .u64 (nt q 1 : Int), .int .u64 (nt q 2 : Int), .int .u64 (nt q 3 : Int)] 241 (0, 0)), .inl (.cells #[.int .u64 (nt f 0 : Int), .int .u64 (nt f 1 : Int), .int .u64 (nt f 2 : Int), .int .u64 (nt f 3 : Int)] 241 (0, 0))]
          exact ⟨⟨r3, r2, nn + 2, k + 1, true, df, by first | rfl | exact congrArg (Value.int .u64) (by omega), rfl, hdf, HZ.out.1, HX.out.1, HZ.out.2⟩, by simp only [intOf]; omega⟩
        · obtain ⟨hle, hnext⟩ := HT.out.1 rfl
          have HN := Lib.hid (And.intro hle hnext)
          clear hle hnext
          have hA := qn_sub s r2 HW.out.1 HX.out.1
          unfold nuV at hA
          go_wp2_with fail
          refine (hA _).mono ?_
          rintro xx w' ⟨r3, d3, rfl, rfl, hw3, c, hc, hv3⟩
          have hv4 := sub_small hv3 hc (val4_lt hw3) HN.out.1
          have hser := HN.out.2
          rw [← hv4] at hser
          have HZ := Lib.hid (And.intro hw3 hser)
          clear hw3 hc hv3 hv4 hser hA
          rw [lay_bw]
          go_wp2_with fail
          obtain ⟨df, hdf⟩ := lay_fold w [.inr d3, .inr d2, .inr d1, .inr e] [.inl (.cells #[.int .u64 (nt r2 0 : Int), .int .u64 (nt r2 1 : Int), .int .u64 (nt r2 2 : Int), .int .u64 (nt r2 3 : Int)] 241 (0, 0)), .inr e2, .inl (.cells #[.int .u64 (nt r3 0 : Int), .int .u64 (nt r3 1 : Int), .int .u64 (nt r3 2 : Int), .int .u64 (nt r3 3 : Int)] 241 (0, 0)), .inr e1, .inl (.cells #[.int .u64 0, .int .u64 0, .int .u64 0, .int .u64 0] 241 (0, 0)), .inl (.cells #[.int .u64 (nt q 0 : Int), .int .u64 (nt q 1 : Int), .int .u64 (nt q 2 : Int), .int .u64 (nt q 3 : Int)] 241 (0, 0)), .inl (.cells #[.int .u64 (nt f 0 : Int), .int .u64 (nt f 1 : Int), .int .u64 (nt f 2 : Int), .int .u64 (nt f 3 : Int)] 241 (0, 0))]
          exact ⟨⟨r3, r2, nn + 2, k + 1, false, df, by first | rfl | exact congrArg (Value.int .u64) (by omega), rfl, hdf, HZ.out.1, HX.out.1, HZ.out.2⟩, by simp only [intOf]; omega⟩
  · rename_i e1 e2 e3 e4
    go_wp2_with fail
    obtain ⟨ee, hee⟩ := lay_fold w [.inr d, .inr e4, .inr e3] [.inl (.cells #[.int .u64 (nt f 0 : Int), .int .u64 (nt f 1 : Int), .int .u64 (nt f 2 : Int), .int .u64 (nt f 3 : Int)] 241 (0, 0)), .inr e2, .inl (.cells #[.int .u64 (nt f 0 : Int), .int .u64 (nt f 1 : Int), .int .u64 (nt f 2 : Int), .int .u64 (nt f 3 : Int)] 241 (0, 0)), .inr e1, .inl (.cells #[.int .u64 0, .int .u64 0, .int .u64 0, .int .u64 0] 241 (0, 0)), .inl (.cells #[.int .u64 (nt q 0 : Int), .int .u64 (nt q 1 : Int), .int .u64 (nt q 2 : Int), .int .u64 (nt q 3 : Int)] 241 (0, 0)), .inl (.cells #[.int .u64 (nt f 0 : Int), .int .u64 (nt f 1 : Int), .int .u64 (nt f 2 : Int), .int .u64 (nt f 3 : Int)] 241 (0, 0))]
    change lay w [.inr d, .inr e4, .inr e3, .inl (.cells #[.int .u64 (nt f 0 : Int), .int .u64 (nt f 1 : Int), .int .u64 (nt f 2 : Int), .int .u64 (nt f 3 : Int)] 241 (0, 0)), .inr e2, .inl (.cells #[.int .u64 (nt f 0 : Int), .int .u64 (nt f 1 : Int), .int .u64 (nt f 2 : Int), .int .u64 (nt f 3 : Int)] 241 (0, 0)), .inr e1, .inl (.cells #[.int .u64 0, .int .u64 0, .int .u64 0, .int .u64 0] 241 (0, 0)), .inl (.cells #[.int .u64 (nt q 0 : Int), .int .u64 (nt q 1 : Int), .int .u64 (nt q 2 : Int), .int .u64 (nt q 3 : Int)] 241 (0, 0)), .inl (.cells #[.int .u64 (nt f 0 : Int), .int .u64 (nt f 1 : Int), .int .u64 (nt f 2 : Int), .int .u64 (nt f 3 : Int)] 241 (0, 0))] = _ at hee
    rw [hee]
    clear hee
    go_loopw [2, 9] (fun v2 v9 wr => ∃ (s t : List Nat) (nn k : Nat) (mi : Bool) (e : Ext), v2 = .int .u64 (nn : Int) ∧ v9 = .bool mi ∧ wr = lay w [.inr e, .inl (.cells #[.int .u64 (nt s 0 : Int), .int .u64 (nt s 1 : Int), .int .u64 (nt s 2 : Int), .int .u64 (nt s 3 : Int)] 241 (0, 0)), .inr e2, .inl (.cells #[.int .u64 (nt t 0 : Int), .int .u64 (nt t 1 : Int), .int .u64 (nt t 2 : Int), .int .u64 (nt t 3 : Int)] 241 (0, 0)), .inr e1, .inl (.cells #[.int .u64 0, .int .u64 0, .int .u64 0, .int .u64 0] 241 (0, 0)), .inl (.cells #[.int .u64 (nt q 0 : Int), .int .u64 (nt q 1 : Int), .int .u64 (nt q 2 : Int), .int .u64 (nt q 3 : Int)] 241 (0, 0)), .inl (.cells #[.int .u64 (nt f 0 : Int), .int .u64 (nt f 1 : Int), .int .u64 (nt f 2 : Int), .int .u64 (nt f 3 : Int)] 241 (0, 0))] ∧ Wd 4 s ∧ Wd 4 t ∧ SerI (val4 q) (val4 f) (n0 + 1) FIN (val4 s) (val4 t) (nn + 1) k mi) (fun v2 _ _ => 400 - (intOf v2).toNat)
    case atStart => exact ⟨f, f, n0, 0, true, ee, rfl, rfl, rfl, hf, hf, HSt.out⟩
    case round =>
      obtain ⟨s, t, nn, k, mi, e, rfl, rfl, rfl, hs, ht, hS⟩ := hrel
      have HS := Lib.hid hS
      have HW := Lib.hid (And.intro hs ht)
      clear hS hs ht
      by_cases h0 : val4 t = 0
      · obtain ⟨z0, z1, z2, z3⟩ := limbs_zero HW.out.2 h0
        have hneq : ∀ W, (binOp .neq 241 (.agg #[.int .u64 (nt t 0 : Int), .int .u64 (nt t 1 : Int), .int .u64 (nt t 2 : Int), .int .u64 (nt t 3 : Int)]) (.agg #[.int .u64 0, .int .u64 0, .int .u64 0, .int .u64 0])).run Tryz.prog W = .ok (.bool false) W := fun W => by
          rw [neq_num, z0, z1, z2, z3]; rfl
        have hfin := HS.out
        rw [h0] at hfin
        have HF := Lib.hid (And.intro HW.out.1 hfin.done)
        clear hfin z0 z1 z2 z3 h0
        go_wp2_with fail
        obtain ⟨dz, ez⟩ := lay_all w [.inr e, .inl (.cells #[.int .u64 (nt s 0 : Int), .int .u64 (nt s 1 : Int), .int .u64 (nt s 2 : Int), .int .u64 (nt s 3 : Int)] 241 (0, 0)), .inr e2, .inl (.cells #[.int .u64 (nt t 0 : Int), .int .u64 (nt t 1 : Int), .int .u64 (nt t 2 : Int), .int .u64 (nt t 3 : Int)] 241 (0, 0)), .inr e1, .inl (.cells #[.int .u64 (nt s 0 : Int), .int .u64 (nt s 1 : Int), .int .u64 (nt s 2 : Int), .int .u64 (nt s 3 : Int)] 241 (0, 0)), .inl (.cells #[.int .u64 (nt q 0 : Int), .int .u64 (nt q 1 : Int), .int .u64 (nt q 2 : Int), .int .u64 (nt q 3 : Int)] 241 (0, 0)), .inl (.cells #[.int .u64 (nt f 0 : Int), .int .u64 (nt f 1 : Int), .int .u64 (nt f 2 : Int), .int .u64 (nt f 3 : Int)] 241 (0, 0))]
        exact bodyPost_ret (v := .agg #[.int .u64 (nt s 0 : Int), .int .u64 (nt s 1 : Int), .int .u64 (nt s 2 : Int), .int .u64 (nt s 3 : Int)]) (by simp [results, Tryz.results290, go_sem]) rfl ⟨s, dz, rfl, ez, HF.out.1, HF.out.2⟩
      · obtain ⟨hk, hn2, hT, hF⟩ := HS.out.step hq2 (by omega) hf2 (by omega)
        have hdk := HS.out.dk
        have hneq : ∀ W, (binOp .neq 241 (.agg #[.int .u64 (nt t 0 : Int), .int .u64 (nt t 1 : Int), .int .u64 (nt t 2 : Int), .int .u64 (nt t 3 : Int)]) (.agg #[.int .u64 0, .int .u64 0, .int .u64 0, .int .u64 0])).run Tryz.prog W = .ok (.bool true) W := fun W => by
          rw [neq_num]
          congr 2
          have := limbs_some HW.out.2 h0
          simp
          omega
        have ht192 : val4 t ≤ m192 := by
          have h1 : val4 t * 1 ≤ val4 t * 2 ^ k := Nat.mul_le_mul_left _ (Nat.pow_pos (by decide))
          have h3 := HS.out.fuel
          omega
        have hM := qn_mul t q HW.out.2 hq (by
          have h1 := Nat.mul_le_mul ht192 hq2
          have h2 : m192 * m192 < 18446744073709551616 ^ 7 := by decide +kernel
          omega)
        obtain ⟨D, hD⟩ : ∃ D, (nn + 1) * (nn + 1 + 1) = D := ⟨_, rfl⟩
        have hnn : nn ≤ 400 := by omega
        have hDb : 0 < D ∧ D < 1000000 := by
          have h1 := Nat.mul_le_mul (show nn + 1 ≤ 401 by omega) (show nn + 1 + 1 ≤ 402 by omega)
          have h2 : 0 < (nn + 1) * (nn + 1 + 1) := Nat.mul_pos (by omega) (by omega)
          omega
        have kn1 : IntKind.u64.wrap ((nn : Int) + 1) = (nn : Int) + 1 := IntWalk.u64_in _ (by omega)
        have kn2 : IntKind.u64.wrap ((nn : Int) + 2) = (nn : Int) + 2 := IntWalk.u64_in _ (by omega)
        have eD : ((nn : Int) + 1) * ((nn : Int) + 2) = (D : Int) := by rw [← hD]; push_cast; rfl
        have kD : IntKind.u64.wrap (((nn : Int) + 1) * ((nn : Int) + 2)) = (D : Int) := by rw [eD]; exact IntWalk.u64_in _ (by omega)
        unfold nuV at hM
        unfold nexQ at hT hF hn2
        rw [hD, m192_pow] at hT hF hn2
        have HT := Lib.hid (And.intro hT (And.intro hF hn2))
        clear hT hF hn2 eD hD h0 ht192
        go_wp2_with fail
        refine (hM _).mono ?_
        rintro xx w' ⟨r1, d1, rfl, rfl, hw1, hv1⟩
        rw [lay_bw]
        have hO := qn_over r1 D hw1 hDb.1 (by omega)
        unfold nuV at hO
        go_wp2_with fail
        refine (hO _).mono ?_
        rintro xx w' ⟨r2, d2, rfl, rfl, hw2, hv2⟩
        rw [hv1] at hv2
        have HT := HT.out
        rw [← hv2] at HT
        have HT := Lib.hid HT
        have HX := Lib.hid (And.intro hw2 (And.intro (val4_lt HW.out.1) (val4_lt hw2)))
        clear hw1 hv1 hw2 hv2 hM hO
        rw [lay_bw]
        cases mi
        · obtain ⟨hle, hnext⟩ := HT.out.2.1 rfl
          have HN := Lib.hid (And.intro hle hnext)
          clear hle hnext
          have hA := qn_add s r2 HW.out.1 HX.out.1
          unfold nuV at hA
          go_wp2_with fail
          refine (hA _).mono ?_
          rintro xx w' ⟨r3, d3, rfl, rfl, hw3, c, hc, hv3⟩
          have hv4 := add_small hv3 hc (Nat.lt_of_le_of_lt (Nat.le_trans HN.out.1 hf2) m192_B4)
          have hser := HN.out.2
          rw [← hv4] at hser
          have HZ := Lib.hid (And.intro hw3 hser)
          clear hw3 hc hv3 hv4 hser hA
          rw [lay_bw]
          go_wp2_with fail
          obtain ⟨df, hdf⟩ := lay_fold w [.inr d3, .inr d2, .inr d1, .inr e] [.inl (.cells #[.int .u64 (nt r3 0 : Int), .int .u64 (nt r3 1 : Int), .int .u64 (nt r3 2 : Int), .int .u64 (nt r3 3 : Int)] 241 (0, 0)), .inr e2, .inl (.cells #[.int .u64 (nt r2 0 : Int), .int .u64 (nt r2 1 : Int), .int .u64 (nt r2 2 : Int), .int .u64 (nt r2 3 : Int)] 241 (0, 0)), .inr e1, .inl (.cells #[.int .u64 0, .int .u64 0, .int .u64 0, .int .u64 0] 241 (0, 0)), .inl (.cells #[.int .u64 (nt q 0 : Int), .int .u64 (nt q 1 : Int), .int .u64 (nt q 2 : Int), .int .u64 (nt q 3 : Int)] 241 (0, 0)), .inl (.cells #[.int .u64 (nt f 0 : Int), .int .u64 (nt f 1 : Int), .int .u64 (nt f 2 : Int), .int .u64 (nt f 3 : Int)] 241 (0, 0))]
          exact ⟨⟨r3, r2, nn + 2, k + 1, true, df, by first | rfl | exact congrArg (Value.int .u64) (by omega), rfl, hdf, HZ.out.1, HX.out.1, HZ.out.2⟩, by simp only [intOf]; omega⟩
        · obtain ⟨hle, hnext⟩ := HT.out.1 rfl
          have HN := Lib.hid (And.intro hle hnext)
          clear hle hnext
          have hA := qn_sub s r2 HW.out.1 HX.out.1
          unfold nuV at hA
          go_wp2_with fail
          refine (hA _).mono ?_
          rintro xx w' ⟨r3, d3, rfl, rfl, hw3, c, hc, hv3⟩
          have hv4 := sub_small hv3 hc (val4_lt hw3) HN.out.1
          have hser := HN.out.2
          rw [← hv4] at hser
          have HZ := Lib.hid (And.intro hw3 hser)
          clear hw3 hc hv3 hv4 hser hA
          rw [lay_bw]
          go_wp2_with fail
          obtain ⟨df, hdf⟩ := lay_fold w [.inr d3, .inr d2, .inr d1, .inr e] [.inl (.cells #[.int .u64 (nt r3 0 : Int), .int .u64 (nt r3 1 : Int), .int .u64 (nt r3 2 : Int), .int .u64 (nt r3 3 : Int)] 241 (0, 0)), .inr e2, .inl (.cells #[.int .u64 (nt r2 0 : Int), .int .u64 (nt r2 1 : Int), .int .u64 (nt r2 2 : Int), .int .u64 (nt r2 3 : Int)] 241 (0, 0)), .inr e1, .inl (.cells #[.int .u64 0, .int .u64 0, .int .u64 0, .int .u64 0] 241 (0, 0)), .inl (.cells #[.int .u64 (nt q 0 : Int), .int .u64 (nt q 1 : Int), .int .u64 (nt q 2 : Int), .int .u64 (nt q 3 : Int)] 241 (0, 0)), .inl (.cells #[.int .u64 (nt f 0 : Int), .int .u64 (nt f 1 : Int), .int .u64 (nt f 2 : Int), .int .u64 (nt f 3 : Int)] 241 (0, 0))]
          exact ⟨⟨r3, r2, nn + 2, k + 1, false, df, by first | rfl | exact congrArg (Value.int .u64) (by omega), rfl, hdf, HZ.out.1, HX.out.1, HZ.out.2⟩, by simp only [intOf]; omega⟩
end Go.Proofs.YtnnmfdeeicpdlaaGreat

/- Contracts and plain laws, several texts in one: WrA; WrB -/
import GoSem.Core.Next
import Derived.Test.YtkhhdpndcidmgaaGreatProg
import Derived.WalkKit
import Derived.WalkSpells
import Derived.WalkLawsBesides
import Derived.Lib.Hide
import Derived.BigQuiet
import Derived.Test.YtkhhdpndcidmgaaGreatTAC
import Derived.Test.YtkhhdpndcidmgaaGreatTAE
import Derived.Test.YtkhhdpndcidmgaaGreatTAF
import Derived.Test.YtkhhdpndcidmgaaGreatTAI
import Derived.Test.YtkhhdpndcidmgaaGreatTAX
import Derived.Test.YtkhhdpndcidmgaaGreatTBB
/- A finer rotation of the plane by exact rationals: near to the series of 22 terms, and to the coarser rotation. No program in sight. -/
namespace Go.Proofs.YtkhhdpndcidmgaaGreat

def c1W : Rat := (6277101735386680763835789423207666416102355444464034512896 * 6277101735386680763835789423207666416102355444464034512896 - 912967439709568408115233804051448332609756093151890 * 912967439709568408115233804051448332609756093151890) / (6277101735386680763835789423207666416102355444464034512896 * 6277101735386680763835789423207666416102355444464034512896 + 912967439709568408115233804051448332609756093151890 * 912967439709568408115233804051448332609756093151890)
def s1W : Rat := 2 * 912967439709568408115233804051448332609756093151890 * 6277101735386680763835789423207666416102355444464034512896 / (6277101735386680763835789423207666416102355444464034512896 * 6277101735386680763835789423207666416102355444464034512896 + 912967439709568408115233804051448332609756093151890 * 912967439709568408115233804051448332609756093151890)
theorem unitW : c1W * c1W + s1W * s1W = 1 := by decide +kernel
theorem unitW_near : Nr s1W ((s1U : Rat) / (k160 : Rat)) (1 / (k160 : Rat)) ∧ Nr c1W ((c1U : Rat) / (k160 : Rat)) (1 / (k160 : Rat)) := by
  unfold Nr
  exact ⟨⟨by decide +kernel, by decide +kernel⟩, ⟨by decide +kernel, by decide +kernel⟩⟩
theorem unitW_z : Nr s1W s1R (1 / k96) ∧ Nr c1W c1R (1 / k96) ∧ -(1 / 3437000) ≤ s1R ∧ s1R ≤ 1 / 3437000 ∧ -1 ≤ c1R ∧ c1R ≤ 1 := by
  unfold Nr
  exact ⟨⟨by decide +kernel, by decide +kernel⟩, ⟨by decide +kernel, by decide +kernel⟩, by decide +kernel, by decide +kernel, by decide +kernel, by decide +kernel⟩
def wsc : Nat → Rat × Rat
  | 0 => (0, 1)
  | n + 1 => ((wsc n).1 * c1W + (wsc n).2 * s1W, (wsc n).2 * c1W - (wsc n).1 * s1W)
def ws (n : Nat) : Rat := (wsc n).1
def wc (n : Nat) : Rat := (wsc n).2
theorem ws_0 : ws 0 = 0 := rfl
theorem wc_0 : wc 0 = 1 := rfl
theorem ws_s (n : Nat) : ws (n + 1) = ws n * c1W + wc n * s1W := rfl
theorem wc_s (n : Nat) : wc (n + 1) = wc n * c1W - ws n * s1W := rfl
theorem w_unit : ∀ n, ws n * ws n + wc n * wc n = 1
  | 0 => by rw [ws_0, wc_0]; grind
  | n + 1 => by
    have h := w_unit n
    have u := unitW
    rw [ws_s, wc_s]
    generalize ws n = a at *
    generalize wc n = b at *
    grind
theorem w_add (a : Nat) : ∀ b, ws (a + b) = ws a * wc b + wc a * ws b ∧ wc (a + b) = wc a * wc b - ws a * ws b
  | 0 => by rw [Nat.add_zero, ws_0, wc_0]; constructor <;> grind
  | b + 1 => by
    obtain ⟨h1, h2⟩ := w_add a b
    rw [← Nat.add_assoc, ws_s, wc_s, ws_s, wc_s, h1, h2]
    constructor <;> grind
theorem w_sub {a b : Nat} (h : b ≤ a) : ws (a - b) = ws a * wc b - wc a * ws b ∧ wc (a - b) = wc a * wc b + ws a * ws b := by
  obtain ⟨h1, h2⟩ := w_add (a - b) b
  rw [Nat.sub_add_cancel h] at h1 h2
  have u := w_unit b
  rw [h1, h2]
  generalize ws (a - b) = x at *
  generalize wc (a - b) = y at *
  generalize ws b = p at *
  generalize wc b = q at *
  constructor <;> grind
def wS (n : Int) : Rat := if 0 ≤ n then ws n.toNat else -(ws (-n).toNat)
def wC (n : Int) : Rat := if 0 ≤ n then wc n.toNat else wc (-n).toNat
theorem wS_nat (n : Nat) : wS (n : Int) = ws n := by unfold wS; rw [if_pos (by omega)]; rfl
theorem wC_nat (n : Nat) : wC (n : Int) = wc n := by unfold wC; rw [if_pos (by omega)]; rfl
theorem wS_neg (n : Int) : wS (-n) = -(wS n) := by
  unfold wS
  rcases Int.lt_trichotomy n 0 with h | h | h
  · rw [if_pos (by omega), if_neg (by omega)]; grind
  · subst h
    simp only [Int.neg_zero, Int.le_refl, if_true]
    show ws 0 = -(ws 0)
    rw [ws_0]; grind
  · rw [if_neg (by omega), if_pos (by omega), Int.neg_neg]
theorem wC_neg (n : Int) : wC (-n) = wC n := by
  unfold wC
  rcases Int.lt_trichotomy n 0 with h | h | h
  · rw [if_pos (by omega), if_neg (by omega)]
  · subst h; rfl
  · rw [if_neg (by omega), if_pos (by omega), Int.neg_neg]
theorem W_unit (n : Int) : wS n * wS n + wC n * wC n = 1 := by
  unfold wS wC
  split
  · exact w_unit _
  · have := w_unit (-n).toNat
    grind
theorem W_addN (a b : Nat) : wS ((a : Int) - (b : Int)) = ws a * wc b - wc a * ws b ∧ wC ((a : Int) - (b : Int)) = wc a * wc b + ws a * ws b := by
  by_cases h : b ≤ a
  · rw [show (a : Int) - (b : Int) = ((a - b : Nat) : Int) by omega, wS_nat, wC_nat]
    exact w_sub h
  · obtain ⟨h1, h2⟩ := w_sub (a := b) (b := a) (by omega)
    rw [show (a : Int) - (b : Int) = -((b - a : Nat) : Int) by omega, wS_neg, wC_neg, wS_nat, wC_nat, h1, h2]
    constructor <;> grind
theorem W_add (a b : Int) : wS (a + b) = wS a * wC b + wC a * wS b ∧ wC (a + b) = wC a * wC b - wS a * wS b := by
  have ha : ∃ m : Nat, a = (m : Int) ∨ a = -(m : Int) := ⟨a.natAbs, by omega⟩
  have hb : ∃ m : Nat, b = (m : Int) ∨ b = -(m : Int) := ⟨b.natAbs, by omega⟩
  obtain ⟨m, hm⟩ := ha
  obtain ⟨n, hn⟩ := hb
  rcases hm with rfl | rfl <;> rcases hn with rfl | rfl
  · obtain ⟨h1, h2⟩ := w_add m n
    rw [show (m : Int) + (n : Int) = ((m + n : Nat) : Int) by omega]
    simp only [wS_nat, wC_nat]
    exact ⟨h1, h2⟩
  · obtain ⟨h1, h2⟩ := W_addN m n
    rw [show (m : Int) + -(n : Int) = (m : Int) - (n : Int) by omega, h1, h2]
    simp only [wS_nat, wC_nat, wS_neg, wC_neg]
    constructor <;> grind
  · obtain ⟨h1, h2⟩ := W_addN n m
    rw [show -(m : Int) + (n : Int) = (n : Int) - (m : Int) by omega, h1, h2]
    simp only [wS_nat, wC_nat, wS_neg, wC_neg]
    constructor <;> grind
  · obtain ⟨h1, h2⟩ := w_add m n
    rw [show -(m : Int) + -(n : Int) = -((m + n : Nat) : Int) by omega]
    simp only [wS_nat, wC_nat, wS_neg, wC_neg]
    rw [h1, h2]
    constructor <;> grind
theorem W_sub (a b : Int) : wS (a - b) = wS a * wC b - wC a * wS b ∧ wC (a - b) = wC a * wC b + wS a * wS b := by
  obtain ⟨h1, h2⟩ := W_add a (-b)
  rw [Int.sub_eq_add_neg, h1, h2, wS_neg, wC_neg]
  constructor <;> grind
theorem W_in (n : Int) : (-1 ≤ wS n ∧ wS n ≤ 1) ∧ -1 ≤ wC n ∧ wC n ≤ 1 := ⟨sq_one (W_unit n), sq_one (y := wS n) (by have := W_unit n; grind)⟩
theorem w_near : ∀ {r : Nat}, r ≤ 2700000 → Nr (ws r) (sinU r) (64 * (r : Rat) / (k160 : Rat)) ∧ Nr (wc r) (cosU r) (64 * (r : Rat) / (k160 : Rat))
  | 0, _ => by
    rw [sinU_zero, cosU_zero, ws_0, wc_0]
    constructor
    · constructor <;> grind
    · constructor <;> grind
  | r + 1, h => by
    obtain ⟨h1, h2⟩ := w_near (r := r) (by omega)
    obtain ⟨h3, h4⟩ := oneU_near
    obtain ⟨u1, u2⟩ := unitW_near
    have v1 := u1.trans h3
    have v2 := u2.trans h4
    have hc1 := cosU_in (n := 1) (by omega)
    have hs1 := sinU_in (n := 1) (by omega)
    have hx1 := xi_one
    have wu := w_unit r
    obtain ⟨z1, z2⟩ := sq_one wu
    obtain ⟨z3, z4⟩ := sq_one (x := wc r) (y := ws r) (by grind)
    have hr0 : (0 : Rat) ≤ (r : Rat) := by exact_mod_cast Nat.zero_le r
    have hr : (r : Rat) ≤ 2700000 := by exact_mod_cast (show r ≤ 2700000 by omega)
    have hk : 0 < 1 / (k160 : Rat) := by
      rw [show (k160 : Rat) = 1461501637330902918203684832716283019655932542976 from rfl]
      grind
    have p1 := h1.prod v2 z1 z2 (show -1 ≤ cosU 1 by grind) hc1.2
    have p2 := h2.prod v1 z3 z4 (show -(1 / 3437000) ≤ sinU 1 by grind) (show sinU 1 ≤ 1 / 3437000 by grind)
    have p3 := h2.prod v2 z3 z4 (show -1 ≤ cosU 1 by grind) hc1.2
    have p4 := h1.prod v1 z1 z2 (show -(1 / 3437000) ≤ sinU 1 by grind) (show sinU 1 ≤ 1 / 3437000 by grind)
    have q1 := (p1.add p2).trans (sinU_step (n := r) (by omega)).symm
    have q2 := (p3.sub p4).trans (cosU_step (n := r) (by omega)).symm
    rw [ws_s, wc_s]
    have e1 : 1 * (1 / (k160 : Rat) + 1 / (k160 : Rat)) + 1 * (64 * (r : Rat) / (k160 : Rat)) + (1 * (1 / (k160 : Rat) + 1 / (k160 : Rat)) + 1 / 3437000 * (64 * (r : Rat) / (k160 : Rat))) + 1 / (k160 : Rat) ≤ 64 * ((r + 1 : Nat) : Rat) / (k160 : Rat) := by
      have h5 := rmul hr0 hr (Rat.le_of_lt hk) (show 1 / (k160 : Rat) ≤ 1 / (k160 : Rat) by exact Rat.le_refl)
      push_cast
      generalize (k160 : Rat) = k at *
      grind
    exact ⟨q1.le e1, q2.le e1⟩
theorem w_z : ∀ {r : Nat}, r ≤ 2700000 → Nr (ws r) (zs r) (16 * (r : Rat) / k96) ∧ Nr (wc r) (zc r) (16 * (r : Rat) / k96)
  | 0, _ => by
    rw [zs_0, zc_0, ws_0, wc_0]
    constructor
    · constructor <;> grind
    · constructor <;> grind
  | r + 1, h => by
    obtain ⟨h1, h2⟩ := w_z (r := r) (by omega)
    obtain ⟨u1, u2, u3, u4, u5, u6⟩ := unitW_z
    have wu := w_unit r
    obtain ⟨z1, z2⟩ := sq_one wu
    obtain ⟨z3, z4⟩ := sq_one (x := wc r) (y := ws r) (by grind)
    have hr0 : (0 : Rat) ≤ (r : Rat) := by exact_mod_cast Nat.zero_le r
    have hr : (r : Rat) ≤ 2700000 := by exact_mod_cast (show r ≤ 2700000 by omega)
    have hk : 0 < 1 / k96 := by unfold k96; grind
    have p1 := h1.prod u2 z1 z2 u5 u6
    have p2 := h2.prod u1 z3 z4 u3 u4
    have p3 := h2.prod u2 z3 z4 u5 u6
    have p4 := h1.prod u1 z1 z2 u3 u4
    have q1 := p1.add p2
    have q2 := p3.sub p4
    rw [ws_s, wc_s, zs_s, zc_s]
    have e1 : 1 * (1 / k96) + 1 * (16 * (r : Rat) / k96) + (1 * (1 / k96) + 1 / 3437000 * (16 * (r : Rat) / k96)) ≤ 16 * ((r + 1 : Nat) : Rat) / k96 := by
      have h5 := rmul hr0 hr (Rat.le_of_lt hk) (show 1 / k96 ≤ 1 / k96 by exact Rat.le_refl)
      push_cast
      grind
    exact ⟨q1.le e1, q2.le e1⟩
end Go.Proofs.YtkhhdpndcidmgaaGreat
/- The finer rotation at the exact angles; every sine of it lies in the cell that the program finds, but for less than 10^-28. No program in sight. -/
namespace Go.Proofs.YtkhhdpndcidmgaaGreat
open Go.RowKit

def eW : Rat := 1 / 1000000000000000000000000000000000000000
theorem thirdU_ab : (2 * evI lisSU 1800000 - facU).natAbs * k160 ≤ 2 * facU := by decide +kernel
theorem sinU_third : Nr (sinU 1800000) (1 / 2) (1 / (k160 : Rat)) := by
  have h2 : sinU 1800000 * (facU : Rat) = ((evI lisSU 1800000 : Int) : Rat) := lisSU_ok 1800000
  have hM := eps_ofU (M := (2 * evI lisSU 1800000 - facU).natAbs) (W := 2 * facU) thirdU_ab
  have hW := facU_rat
  refine nr_of_int (W := 2 * (facU : Rat)) (x := 2 * evI lisSU 1800000 - facU) (by grind) ?_ (Nat.le_refl _) (by push_cast at hM; exact hM)
  rw [show (sinU 1800000 - 1 / 2) * (2 * (facU : Rat)) = 2 * (sinU 1800000 * (facU : Rat)) - (facU : Rat) by grind, h2]
  generalize evI lisSU 1800000 = u
  push_cast
  rfl
theorem w_third_e : 64 * ((1800000 : Nat) : Rat) / (k160 : Rat) + 1 / (k160 : Rat) ≤ 1 / 10000000000000000000000000000000000000000 := by decide +kernel
theorem w_third : Nr (ws 1800000) (1 / 2) (1 / 10000000000000000000000000000000000000000) := ((w_near (r := 1800000) (by decide)).1.trans sinU_third).le w_third_e
theorem w_qnat : -eW ≤ wc 5400000 ∧ wc 5400000 ≤ eW ∧ 1 - eW ≤ ws 5400000 ∧ ws 5400000 ≤ 1 := by
  obtain ⟨a1, a2⟩ := w_add 1800000 1800000
  rw [show (1800000 : Nat) + 1800000 = 3600000 from rfl] at a1 a2
  obtain ⟨b1, b2⟩ := w_add 3600000 1800000
  rw [show (3600000 : Nat) + 1800000 = 5400000 from rfl] at b1 b2
  have u := w_unit 1800000
  obtain ⟨t1, t2⟩ := w_third
  obtain ⟨c1, c2⟩ := sq_one (x := wc 1800000) (y := ws 1800000) (by grind)
  have hu := (sq_one (w_unit 5400000)).2
  refine ⟨?_, ?_, ?_, hu⟩
  all_goals clear hu
  all_goals rw [a1, a2] at b1 b2
  all_goals clear a1 a2
  all_goals first | rw [b1] | rw [b2]
  all_goals clear b1 b2
  all_goals generalize ws 1800000 = s at *
  all_goals generalize wc 1800000 = c at *
  all_goals obtain ⟨x, hx⟩ : ∃ x, s = 1 / 2 + x := ⟨s - 1 / 2, by grind⟩
  all_goals subst hx
  all_goals obtain ⟨e, he⟩ : ∃ e : Rat, e = 1 / 10000000000000000000000000000000000000000 := ⟨_, rfl⟩
  all_goals rw [← he] at t1 t2
  all_goals have e0 : 0 ≤ e ∧ e ≤ 1 / 1000 ∧ 10 * e = eW := by unfold eW; rw [he]; refine ⟨by grind, by grind, by grind⟩
  all_goals clear he
  all_goals rw [← e0.2.2]
  all_goals obtain ⟨e0, e1, -⟩ := e0
  all_goals obtain ⟨p1, p2⟩ := rabs (x := x) (y := x) (m := e) (f := e) (by grind) (by grind) (by grind) (by grind)
  all_goals obtain ⟨p3, p4⟩ := rabs (x := x) (y := 1 + x) (m := e) (f := 2) (by grind) (by grind) (by grind) (by grind)
  all_goals obtain ⟨p5, p6⟩ := rabs (x := c) (y := x * (1 + x)) (m := 1) (f := e * 2) c1 c2 p3 p4
  · have : (c * c - (1 / 2 + x) * (1 / 2 + x)) * c - ((1 / 2 + x) * c + c * (1 / 2 + x)) * (1 / 2 + x) = -4 * (c * (x * (1 + x))) := by grind
    rw [this]; grind
  · have : (c * c - (1 / 2 + x) * (1 / 2 + x)) * c - ((1 / 2 + x) * c + c * (1 / 2 + x)) * (1 / 2 + x) = -4 * (c * (x * (1 + x))) := by grind
    rw [this]; grind
  · obtain ⟨p7, p8⟩ := rabs (x := x * x) (y := 6 + 4 * x) (m := e * e) (f := 7) p1 p2 (by grind) (by grind)
    have : ((1 / 2 + x) * c + c * (1 / 2 + x)) * c + (c * c - (1 / 2 + x) * (1 / 2 + x)) * (1 / 2 + x) = 1 - x * x * (6 + 4 * x) := by grind
    have := rmul e0 e1 e0 (Rat.le_refl : e ≤ e)
    grind
theorem wq_near : -eW ≤ wC 5400000 ∧ wC 5400000 ≤ eW ∧ 1 - eW ≤ wS 5400000 ∧ wS 5400000 ≤ 1 := by
  have h := w_qnat
  rw [show (5400000 : Int) = ((5400000 : Nat) : Int) from rfl, wS_nat, wC_nat]
  exact h
theorem whalf_near : -(2 * eW) ≤ wS 10800000 ∧ wS 10800000 ≤ 2 * eW ∧ -1 ≤ wC 10800000 ∧ wC 10800000 ≤ -1 + 3 * eW := by
  obtain ⟨q1, q2, q3, q4⟩ := wq_near
  obtain ⟨a1, a2⟩ := W_add 5400000 5400000
  rw [show (5400000 : Int) + 5400000 = 10800000 from rfl] at a1 a2
  have hz := (W_in 10800000).2.1
  rw [a2] at hz
  rw [a1, a2]
  clear a1 a2
  generalize wS 5400000 = s at *
  generalize wC 5400000 = c at *
  have he : (0 : Rat) < eW ∧ eW ≤ 1 / 1000 := by unfold eW; constructor <;> grind
  generalize eW = e at *
  obtain ⟨p1, p2⟩ := rabs (x := s) (y := c) (m := 1) (f := e) (by grind) q4 q1 q2
  obtain ⟨p3, p4⟩ := rabs (x := c) (y := c) (m := e) (f := e) q1 q2 q1 q2
  have p5 := rmul (a := 1 - e) (b := s) (c := 1 - e) (d := s) (by grind) q3 (by grind) q3
  have p6 := rmul (a := e) (b := 1 / 1000) (c := e) (d := e) (by grind) (by grind) (by grind) (by grind)
  refine ⟨?_, ?_, hz, ?_⟩ <;> grind
theorem wturn_near : -(5 * eW) ≤ wS 21600000 ∧ wS 21600000 ≤ 5 * eW ∧ 1 - 7 * eW ≤ wC 21600000 ∧ wC 21600000 ≤ 1 := by
  obtain ⟨q1, q2, q3, q4⟩ := whalf_near
  obtain ⟨a1, a2⟩ := W_add 10800000 10800000
  rw [show (10800000 : Int) + 10800000 = 21600000 from rfl] at a1 a2
  have hz := (W_in 21600000).2.2
  rw [a2] at hz
  rw [a1, a2]
  clear a1 a2
  generalize wS 10800000 = s at *
  generalize wC 10800000 = c at *
  have he : (0 : Rat) < eW ∧ eW ≤ 1 / 1000 := by unfold eW; constructor <;> grind
  generalize eW = e at *
  obtain ⟨p1, p2⟩ := rabs (x := c) (y := s) (m := 1) (f := 2 * e) (by grind) (by grind) q1 q2
  obtain ⟨p3, p4⟩ := rabs (x := s) (y := s) (m := 2 * e) (f := 2 * e) q1 q2 q1 q2
  have p5 := rmul (a := 1 - 3 * e) (b := -c) (c := 1 - 3 * e) (d := -c) (by grind) (by grind) (by grind) (by grind)
  have p6 := rmul (a := e) (b := 1 / 1000) (c := e) (d := e) (by grind) (by grind) (by grind) (by grind)
  refine ⟨?_, ?_, ?_, hz⟩ <;> grind
theorem wS_refl (m : Int) : Nr (wS (10800000 - m)) (wS m) (6 * eW) := by
  obtain ⟨q1, q2, q3, q4⟩ := whalf_near
  obtain ⟨a1, -⟩ := W_sub 10800000 m
  obtain ⟨⟨b1, b2⟩, b3, b4⟩ := W_in m
  rw [a1]
  clear a1
  generalize wS 10800000 = s at *
  generalize wC 10800000 = c at *
  generalize wS m = x at *
  generalize wC m = y at *
  have he : (0 : Rat) < eW ∧ eW ≤ 1 / 1000 := by unfold eW; constructor <;> grind
  generalize eW = e at *
  obtain ⟨p1, p2⟩ := rabs (x := s) (y := y) (m := 2 * e) (f := 1) q1 q2 b3 b4
  obtain ⟨p3, p4⟩ := rabs (x := c + 1) (y := x) (m := 3 * e) (f := 1) (by grind) (by grind) b1 b2
  constructor <;> grind
theorem wS_turn (m : Int) : Nr (wS (m + 21600000)) (wS m) (12 * eW) := by
  obtain ⟨q1, q2, q3, q4⟩ := wturn_near
  obtain ⟨a1, -⟩ := W_add m 21600000
  obtain ⟨⟨b1, b2⟩, b3, b4⟩ := W_in m
  rw [a1]
  clear a1
  generalize wS 21600000 = s at *
  generalize wC 21600000 = c at *
  generalize wS m = x at *
  generalize wC m = y at *
  have he : (0 : Rat) < eW ∧ eW ≤ 1 / 1000 := by unfold eW; constructor <;> grind
  generalize eW = e at *
  obtain ⟨p1, p2⟩ := rabs (x := s) (y := y) (m := 5 * e) (f := 1) q1 q2 b3 b4
  obtain ⟨p3, p4⟩ := rabs (x := c - 1) (y := x) (m := 7 * e) (f := 1) (by grind) (by grind) b1 b2
  constructor <;> grind
theorem wz_q {n : Nat} (h : n ≤ 5400000) : Nr (ws n) (zs n) (1 / 1000000000000000000) := by
  have near : ∀ {r : Nat}, r ≤ 2700000 → Nr (ws r) (zs r) (1 / 1000000000000000000000) ∧ Nr (wc r) (zc r) (1 / 1000000000000000000000) := fun {r} hr => by
    have hr' : (r : Rat) ≤ 2700000 := by exact_mod_cast hr
    have : 16 * (r : Rat) / k96 ≤ 1 / 1000000000000000000000 := by unfold k96; grind
    exact ⟨(w_z hr).1.le this, (w_z hr).2.le this⟩
  by_cases c : n ≤ 2700000
  · exact (near c).1.le (by grind)
  · obtain ⟨b, rfl⟩ : ∃ b, n = 2700000 + b := ⟨n - 2700000, by omega⟩
    obtain ⟨h1, h2⟩ := near (r := 2700000) (by omega)
    obtain ⟨h3, h4⟩ := near (r := b) (by omega)
    obtain ⟨w1, w2⟩ := sq_one (w_unit 2700000)
    obtain ⟨w3, w4⟩ := sq_one (x := wc 2700000) (y := ws 2700000) (by have := w_unit 2700000; grind)
    obtain ⟨z1, z2⟩ := sq_one (z_unit b)
    obtain ⟨z3, z4⟩ := sq_one (x := zc b) (y := zs b) (by have := z_unit b; grind)
    rw [(w_add _ _).1, (z_add _ _).1]
    exact ((h1.prod h4 w1 w2 z3 z4).add (h2.prod h3 w3 w4 z1 z2)).le (by grind)
structure CellW (n : Int) (t : Rat) : Prop where
  lo : (bLo n : Rat) ≤ 1073741824 * wS n + t
  hi : 1073741824 * wS n ≤ (bHi n : Rat) + t
theorem CellW.same {n m : Int} {t d t' : Rat} (h : CellW n t) (hn : Nr (wS m) (wS n) d) (h1 : bLo m = bLo n) (h2 : bHi m = bHi n) (ht : t + 1073741824 * d ≤ t') : CellW m t' := by
  obtain ⟨a1, a2⟩ := h
  obtain ⟨n1, n2⟩ := hn
  have e1 : (bLo m : Rat) = (bLo n : Rat) := by rw [h1]
  have e2 : (bHi m : Rat) = (bHi n : Rat) := by rw [h2]
  constructor <;> simp only [e1, e2] <;> grind
theorem CellW.opp {n m : Int} {t d t' : Rat} (h : CellW n t) (hn : Nr (wS m) (-(wS n)) d) (h1 : bLo m = -(bHi n)) (h2 : bHi m = -(bLo n)) (ht : t + 1073741824 * d ≤ t') : CellW m t' := by
  obtain ⟨a1, a2⟩ := h
  obtain ⟨n1, n2⟩ := hn
  have e1 : (bLo m : Rat) = -(bHi n : Rat) := by rw [h1]; push_cast; rfl
  have e2 : (bHi m : Rat) = -(bLo n : Rat) := by rw [h2]; push_cast; rfl
  constructor <;> simp only [e1, e2] <;> grind
def wtw0 : Rat := 1 / 100000000000000000000000000000
def wtW : Rat := 1 / 10000000000000000000000000000
theorem cellw_1 {n : Int} (h0 : 0 ≤ n) (h1 : n ≤ 5400000) : CellW n wtw0 := by
  obtain ⟨m, rfl⟩ := Int.eq_ofNat_of_zero_le h0
  have hm : m ≤ 5400000 := by omega
  obtain ⟨e1, e2⟩ := b_one h0 h1
  rw [Int.toNat_natCast] at e1 e2
  have hu : hiQ m = (sinQ m : Int) + oneQ m := rfl
  have ho := oneQ_at m
  have exact : ∀ {k : Nat}, sinQ m = k → oneQ m = 0 → Nr (1073741824 * ws m) (k : Rat) wtw0 → CellW (m : Int) wtw0 := fun {k} h1 h2 h3 => by
    rw [h2, Int.add_zero, h1] at hu
    rw [h1] at e1
    rw [hu] at e2
    obtain ⟨n1, n2⟩ := h3
    constructor
    · rw [e1, wS_nat]; push_cast; exact n2
    · rw [e2, wS_nat]; push_cast; exact n1
  by_cases c0 : m = 0
  · subst c0
    refine exact (k := 0) sinQ_0 (by rw [ho]; rfl) ?_
    rw [ws_0]
    unfold wtw0
    constructor <;> grind
  by_cases c1 : m = 1800000
  · subst c1
    refine exact (k := 536870912) sinQ_h (by rw [ho, if_pos (.inr (.inl rfl))]) ?_
    obtain ⟨n1, n2⟩ := w_third
    generalize ws 1800000 = z at *
    unfold wtw0
    push_cast
    constructor <;> grind
  by_cases c2 : m = 5400000
  · subst c2
    refine exact (k := 1073741824) sinQ_q (by rw [ho, if_pos (.inr (.inr rfl))]) ?_
    obtain ⟨h1, h2, h3, h4⟩ := w_qnat
    unfold eW at h3
    generalize ws 5400000 = z at *
    unfold wtw0
    push_cast
    constructor <;> grind
  rw [if_neg (by omega)] at ho
  rw [ho] at hu
  rw [hu] at e2
  have hc := cell_1 h0 h1
  obtain ⟨n1, n2⟩ := wz_q hm
  have k1 := hc.up
  have k2 := hc.dn
  rw [e1, zS_nat] at k1
  rw [e2, zS_nat] at k2
  push_cast at k1 k2
  constructor
  · rw [e1, wS_nat]; push_cast; unfold wtw0; grind
  · rw [e2, wS_nat]; push_cast; unfold wtw0; grind
theorem cellw_2 {n : Int} (h0 : -5400000 ≤ n) (h1 : n ≤ 5400000) : CellW n wtw0 := by
  by_cases h : 0 ≤ n
  · exact cellw_1 h h1
  · obtain ⟨b1, b2⟩ := b_odd (n := -n) (by omega) (by omega)
    rw [Int.neg_neg] at b1 b2
    refine (cellw_1 (n := -n) (by omega) (by omega)).opp (d := 0) ?_ b1 b2 (by grind)
    rw [wS_neg]
    constructor <;> grind
def wtw1 : Rat := 1 / 50000000000000000000000000000
theorem cellw_3 {n : Int} (h0 : -5400000 ≤ n) (h1 : n ≤ 16200000) : CellW n wtw1 := by
  have he : wtw0 + 1073741824 * (6 * eW) ≤ wtw1 ∧ wtw0 + 1073741824 * 0 ≤ wtw1 := by unfold wtw0 wtw1 eW; constructor <;> grind
  by_cases h : n ≤ 5400000
  · refine (cellw_2 h0 h).same (d := 0) ?_ rfl rfl he.2
    constructor <;> grind
  · have hn := wS_refl (10800000 - n)
    rw [show 10800000 - (10800000 - n) = n by omega] at hn
    refine (cellw_2 (n := 10800000 - n) (by omega) (by omega)).same hn ?_ ?_ he.1
    · by_cases g : n ≤ 10800000
      · rw [(b_two (n := n) (by omega) g).1, (b_one (n := 10800000 - n) (by omega) (by omega)).1]
      · rw [(b_three (n := n) (by omega) h1).1, (b_four (n := 10800000 - n) (by omega) (by omega)).1, show (-(10800000 - n)) = n - 10800000 by omega]
    · by_cases g : n ≤ 10800000
      · rw [(b_two (n := n) (by omega) g).2, (b_one (n := 10800000 - n) (by omega) (by omega)).2]
      · rw [(b_three (n := n) (by omega) h1).2, (b_four (n := 10800000 - n) (by omega) (by omega)).2, show (-(10800000 - n)) = n - 10800000 by omega]
theorem cellw_all {n : Int} (h0 : -5400000 ≤ n) (h1 : n ≤ 27000000) : CellW n wtW := by
  have he : wtw1 + 1073741824 * (12 * eW) ≤ wtW ∧ wtw1 + 1073741824 * 0 ≤ wtW := by unfold wtw1 wtW eW; constructor <;> grind
  by_cases h : n ≤ 16200000
  · refine (cellw_3 h0 h).same (d := 0) ?_ rfl rfl he.2
    constructor <;> grind
  · have hn := wS_turn (n - 21600000)
    rw [show n - 21600000 + 21600000 = n by omega] at hn
    have hb := b_shift (n - 21600000) 1
    rw [show n - 21600000 + 21600000 * 1 = n by omega] at hb
    exact (cellw_3 (n := n - 21600000) (by omega) (by omega)).same hn hb.1 hb.2 he.1
theorem wC_quarter (n : Int) : Nr (wS (n + 5400000)) (wC n) (2 * eW) := by
  obtain ⟨q1, q2, q3, q4⟩ := wq_near
  obtain ⟨a1, -⟩ := W_add n 5400000
  obtain ⟨⟨b1, b2⟩, b3, b4⟩ := W_in n
  rw [a1]
  clear a1
  generalize wS 5400000 = s at *
  generalize wC 5400000 = c at *
  generalize wS n = x at *
  generalize wC n = y at *
  have he : (0 : Rat) < eW ∧ eW ≤ 1 / 1000 := by unfold eW; constructor <;> grind
  generalize eW = e at *
  obtain ⟨p1, p2⟩ := rabs (x := x) (y := c) (m := 1) (f := e) b1 b2 q1 q2
  obtain ⟨p3, p4⟩ := rabs (x := y) (y := s - 1) (m := 1) (f := e) b3 b4 (by grind) (by grind)
  constructor <;> grind
end Go.Proofs.YtkhhdpndcidmgaaGreat

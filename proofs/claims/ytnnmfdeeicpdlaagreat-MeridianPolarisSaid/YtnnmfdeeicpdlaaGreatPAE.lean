/- Contracts and plain laws, several texts in one: FxS; HvP; TgH; ChM; Pol0; CiP; QnP; QnQ; CiC; AsW1; AsW2 -/
import Derived.Test.YtnnmfdeeicpdlaaGreatProg
import Derived.WalkKit
import Derived.WalkSpells
import Derived.WalkLawsBesides
import Derived.Lib.Hide
import Derived.BigQuiet
import GoSem.Core.Next
import Derived.Test.YtnnmfdeeicpdlaaGreatPAA
import Derived.Test.YtnnmfdeeicpdlaaGreatPAB
import Derived.Test.YtnnmfdeeicpdlaaGreatPAD
/- fixed: Sub, Add, fit at any ends. -/
namespace Go.Proofs.YtnnmfdeeicpdlaaGreat
open Go.RowKit

set_option maxRecDepth 100000 in
theorem fx_fitX (lo hi : Int) (w : World) :
    Calls Tryz.prog 95 #[.int .i64 lo, .int .i64 hi] w fun e w' => e = .returned (.tuple #[(.agg #[.int .i64 (if fxB lo hi then lo else 0), .int .i64 (if fxB lo hi then hi else 0)]), .int .i64 (if fxB lo hi then 0 else 5)]) ∧ ∃ d, w' = bw w d := by
  cases h : fxB lo hi
  · have HV := Lib.hid (fun W => fx_ValidG lo hi W)
    rw [h] at HV
    refine lay_start ?_
    go_enter Tryz.func95, Tryz.ntmps95
    go_wp2_with (go_at_call 116; refine (HV.out _).mono ?_; rintro e w' ⟨rfl, d, rfl⟩)
    exact bodyPost_ret (v := .tuple #[(.agg #[.int .i64 (0), .int .i64 (0)]), .int .i64 5]) (by simp [results, Tryz.results95, go_sem]) rfl ⟨rfl, lay_ex _ _⟩
  · exact fx_fitG lo hi w h
end Go.Proofs.YtnnmfdeeicpdlaaGreat
/- Haversines: plain laws, no walk. -/
namespace Go.Proofs.YtnnmfdeeicpdlaaGreat

end Go.Proofs.YtnnmfdeeicpdlaaGreat
/- Haversines over arcs: the program's. -/
namespace Go.Proofs.YtnnmfdeeicpdlaaGreat
open Go.RowKit

end Go.Proofs.YtnnmfdeeicpdlaaGreat
/- meridian's chain of operations: each gives its enclosure, and no error is kept. -/
namespace Go.Proofs.YtnnmfdeeicpdlaaGreat
set_option maxRecDepth 100000
open Go.RowKit

theorem mc_keep (b : Nat) (lo hi : Int) (w : World) (hc : ChW b w) :
    Calls Tryz.prog 44 #[.pointer (some ⟨b, 0, none⟩), (.agg #[.int .i64 (lo), .int .i64 (hi)]), .int .i64 0] w fun e w' => e = .returned (.agg #[.int .i64 (lo), .int .i64 (hi)]) ∧ ∃ d, w' = bw w d := by
  have hb := hc.lt
  have h1 := hc.cell
  have h2 := hc.froz
  have h3 : ∀ L, (lay w L).setCell ⟨b, 0, none⟩ (.int .i64 0) = lay w L := fun L => (hc.lay L).set
  refine lay_start ?_
  go_enter Tryz.func44, Tryz.ntmps44
  go_wp2_with fail
  exact bodyPost_ret (v := (.agg #[.int .i64 (lo), .int .i64 (hi)])) (by simp [results, Tryz.results44, go_sem]) rfl ⟨rfl, lay_ex _ _⟩
theorem mc_cos (b : Nat) (lo hi : Int) (w : World) (hc : ChW b w) (hv : validB lo hi = true) :
    Calls Tryz.prog 40 #[.pointer (some ⟨b, 0, none⟩), (.agg #[.int .i64 (lo), .int .i64 (hi)])] w fun e w' => e = .returned (.agg #[.int .i64 (encL (lo + 5400000) (hi + 5400000)), .int .i64 (encH (lo + 5400000) (hi + 5400000))]) ∧ ∃ d, w' = bw w d := by
  have HK := Lib.hid (fun L => mc_keep b (encL (lo + 5400000) (hi + 5400000)) (encH (lo + 5400000) (hi + 5400000)) (lay w L) (hc.lay L))
  have HT := Lib.hid (fun W => tg_Cos lo hi hv W)
  generalize encL (lo + 5400000) (hi + 5400000) = p at *
  generalize encH (lo + 5400000) (hi + 5400000) = q at *
  clear hc hv
  refine lay_start ?_
  go_enter Tryz.func40, Tryz.ntmps40
  go_wp2_with (first | (go_at_call 27; refine (HT.out _).mono ?_; rintro e w' ⟨rfl, d, rfl⟩; rw [lay_bw]) | (go_at_call 44; refine (HK.out _).mono ?_; rintro e w' ⟨rfl, d2, rfl⟩))
  exact bodyPost_ret (v := (.agg #[.int .i64 (p), .int .i64 (q)])) (by simp [results, Tryz.results40, go_sem]) rfl ⟨rfl, lay_ex _ _⟩
theorem mc_mul (b : Nat) (a0 a1 b0 b1 : Int) (w : World) (hc : ChW b w) (ha : fxB a0 a1 = true) (hb : fxB b0 b1 = true) (hm : fxB (mulL a0 a1 b0 b1) (mulH a0 a1 b0 b1) = true) :
    Calls Tryz.prog 41 #[.pointer (some ⟨b, 0, none⟩), (.agg #[.int .i64 (a0), .int .i64 (a1)]), (.agg #[.int .i64 (b0), .int .i64 (b1)])] w fun e w' => e = .returned (.agg #[.int .i64 (mulL a0 a1 b0 b1), .int .i64 (mulH a0 a1 b0 b1)]) ∧ ∃ d, w' = bw w d := by
  have HK := Lib.hid (fun L => mc_keep b (mulL a0 a1 b0 b1) (mulH a0 a1 b0 b1) (lay w L) (hc.lay L))
  have HT := Lib.hid (fun W => fx_MulG a0 a1 b0 b1 W ha hb hm)
  generalize mulL a0 a1 b0 b1 = p at *
  generalize mulH a0 a1 b0 b1 = q at *
  clear hc ha hb hm
  refine lay_start ?_
  go_enter Tryz.func41, Tryz.ntmps41
  go_wp2_with (first | (go_at_call 24; refine (HT.out _).mono ?_; rintro e w' ⟨rfl, d, rfl⟩; rw [lay_bw]) | (go_at_call 44; refine (HK.out _).mono ?_; rintro e w' ⟨rfl, d2, rfl⟩))
  exact bodyPost_ret (v := (.agg #[.int .i64 (p), .int .i64 (q)])) (by simp [results, Tryz.results41, go_sem]) rfl ⟨rfl, lay_ex _ _⟩
end Go.Proofs.YtnnmfdeeicpdlaaGreat
/- meridian.chain.sin. -/
namespace Go.Proofs.YtnnmfdeeicpdlaaGreat
open Go.RowKit

set_option maxRecDepth 100000 in
theorem mc_sin (b : Nat) (lo hi : Int) (w : World) (hc : ChW b w) (hv : validB lo hi = true) :
    Calls Tryz.prog 42 #[.pointer (some ⟨b, 0, none⟩), (.agg #[.int .i64 (lo), .int .i64 (hi)])] w fun e w' => e = .returned (.agg #[.int .i64 (encL lo hi), .int .i64 (encH lo hi)]) ∧ ∃ d, w' = bw w d := by
  have HK := Lib.hid (fun L => mc_keep b (encL lo hi) (encH lo hi) (lay w L) (hc.lay L))
  have HT := Lib.hid (fun W => tg_Sin lo hi hv W)
  generalize encL lo hi = p at *
  generalize encH lo hi = q at *
  clear hc hv
  refine lay_start ?_
  go_enter Tryz.func42, Tryz.ntmps42
  go_wp2_with (first | (go_at_call 26; refine (HT.out _).mono ?_; rintro e w' ⟨rfl, d, rfl⟩; rw [lay_bw]) | (go_at_call 44; refine (HK.out _).mono ?_; rintro e w' ⟨rfl, d2, rfl⟩))
  exact bodyPost_ret (v := (.agg #[.int .i64 (p), .int .i64 (q)])) (by simp [results, Tryz.results42, go_sem]) rfl ⟨rfl, lay_ex _ _⟩
end Go.Proofs.YtnnmfdeeicpdlaaGreat
/- A rotation of the plane by exact rationals, by about a unit of angle: sums of angles are exact, and each sine lies in the cell that the program finds. No program in sight. -/
namespace Go.Proofs.YtnnmfdeeicpdlaaGreat

theorem rabs {x y m f : Rat} (h1 : -m ≤ x) (h2 : x ≤ m) (h3 : -f ≤ y) (h4 : y ≤ f) : -(m * f) ≤ x * y ∧ x * y ≤ m * f := by
  have a1 := rmul0 (show 0 ≤ m - x by grind) (show 0 ≤ f + y by grind)
  have a2 := rmul0 (show 0 ≤ m + x by grind) (show 0 ≤ f - y by grind)
  have a3 := rmul0 (show 0 ≤ m - x by grind) (show 0 ≤ f - y by grind)
  have a4 := rmul0 (show 0 ≤ m + x by grind) (show 0 ≤ f + y by grind)
  constructor <;> grind
theorem sq_one {x y : Rat} (h : x * x + y * y = 1) : -1 ≤ x ∧ x ≤ 1 := by
  have hy : 0 ≤ y * y := by
    rcases (Rat.le_total : (0 : Rat) ≤ y ∨ y ≤ 0) with g | g
    · exact rmul0 g g
    · have := rmul0 (show 0 ≤ -y by grind) (show 0 ≤ -y by grind); grind
  constructor
  · rcases (Rat.le_total : ((-1) : Rat) ≤ x ∨ x ≤ (-1)) with g | g
    · exact g
    · have a := rmul0 (show 0 ≤ -1 - x by grind) (show 0 ≤ -1 - x by grind)
      grind
  · rcases (Rat.le_total : (x : Rat) ≤ 1 ∨ 1 ≤ x) with g | g
    · exact g
    · have a := rmul0 (show 0 ≤ x - 1 by grind) (show 0 ≤ x - 1 by grind)
      grind
theorem Nr.prod {a b c d e f m n : Rat} (h : Nr a b e) (g : Nr c d f) (a0 : -m ≤ a) (a1 : a ≤ m) (d0 : -n ≤ d) (d1 : d ≤ n) : Nr (a * c) (b * d) (m * f + n * e) := by
  obtain ⟨h1, h2⟩ := h
  obtain ⟨g1, g2⟩ := g
  obtain ⟨p1, p2⟩ := rabs a0 a1 (show -f ≤ c - d by grind) (show c - d ≤ f by grind)
  obtain ⟨q1, q2⟩ := rabs d0 d1 (show -e ≤ a - b by grind) (show a - b ≤ e by grind)
  constructor <;> grind
def c1R : Rat := (340282366920938463463374607431768211456 * 340282366920938463463374607431768211456 - 49492064077082142867227310776778 * 49492064077082142867227310776778) / (340282366920938463463374607431768211456 * 340282366920938463463374607431768211456 + 49492064077082142867227310776778 * 49492064077082142867227310776778)
def s1R : Rat := 2 * 49492064077082142867227310776778 * 340282366920938463463374607431768211456 / (340282366920938463463374607431768211456 * 340282366920938463463374607431768211456 + 49492064077082142867227310776778 * 49492064077082142867227310776778)
theorem unit1 : c1R * c1R + s1R * s1R = 1 := by decide +kernel
theorem unit_near : Nr s1R (23046538269650701392778 / k96) (1 / k96) ∧ Nr c1R (79228162514260985610427347966 / k96) (1 / k96) := by
  unfold Nr
  exact ⟨⟨by decide +kernel, by decide +kernel⟩, ⟨by decide +kernel, by decide +kernel⟩⟩
def zsc : Nat → Rat × Rat
  | 0 => (0, 1)
  | n + 1 => ((zsc n).1 * c1R + (zsc n).2 * s1R, (zsc n).2 * c1R - (zsc n).1 * s1R)
def zs (n : Nat) : Rat := (zsc n).1
def zc (n : Nat) : Rat := (zsc n).2
theorem zs_0 : zs 0 = 0 := rfl
theorem zc_0 : zc 0 = 1 := rfl
theorem zs_s (n : Nat) : zs (n + 1) = zs n * c1R + zc n * s1R := rfl
theorem zc_s (n : Nat) : zc (n + 1) = zc n * c1R - zs n * s1R := rfl
theorem z_unit : ∀ n, zs n * zs n + zc n * zc n = 1
  | 0 => by rw [zs_0, zc_0]; grind
  | n + 1 => by
    have h := z_unit n
    have u := unit1
    rw [zs_s, zc_s]
    generalize zs n = a at *
    generalize zc n = b at *
    grind
theorem z_add (a : Nat) : ∀ b, zs (a + b) = zs a * zc b + zc a * zs b ∧ zc (a + b) = zc a * zc b - zs a * zs b
  | 0 => by rw [Nat.add_zero, zs_0, zc_0]; constructor <;> grind
  | b + 1 => by
    obtain ⟨h1, h2⟩ := z_add a b
    rw [← Nat.add_assoc, zs_s, zc_s, zs_s, zc_s, h1, h2]
    constructor <;> grind
theorem z_sub {a b : Nat} (h : b ≤ a) : zs (a - b) = zs a * zc b - zc a * zs b ∧ zc (a - b) = zc a * zc b + zs a * zs b := by
  obtain ⟨h1, h2⟩ := z_add (a - b) b
  rw [Nat.sub_add_cancel h] at h1 h2
  have u := z_unit b
  rw [h1, h2]
  generalize zs (a - b) = x at *
  generalize zc (a - b) = y at *
  generalize zs b = p at *
  generalize zc b = q at *
  constructor <;> grind
def zS (n : Int) : Rat := if 0 ≤ n then zs n.toNat else -(zs (-n).toNat)
def zC (n : Int) : Rat := if 0 ≤ n then zc n.toNat else zc (-n).toNat
theorem zS_nat (n : Nat) : zS (n : Int) = zs n := by unfold zS; rw [if_pos (by omega)]; rfl
theorem zC_nat (n : Nat) : zC (n : Int) = zc n := by unfold zC; rw [if_pos (by omega)]; rfl
theorem zS_neg (n : Int) : zS (-n) = -(zS n) := by
  unfold zS
  rcases Int.lt_trichotomy n 0 with h | h | h
  · rw [if_pos (by omega), if_neg (by omega)]; grind
  · subst h
    simp only [Int.neg_zero, Int.le_refl, if_true]
    show zs 0 = -(zs 0)
    rw [zs_0]; grind
  · rw [if_neg (by omega), if_pos (by omega), Int.neg_neg]
theorem zC_neg (n : Int) : zC (-n) = zC n := by
  unfold zC
  rcases Int.lt_trichotomy n 0 with h | h | h
  · rw [if_pos (by omega), if_neg (by omega)]
  · subst h; rfl
  · rw [if_neg (by omega), if_pos (by omega), Int.neg_neg]
theorem Z_unit (n : Int) : zS n * zS n + zC n * zC n = 1 := by
  unfold zS zC
  split
  · exact z_unit _
  · have := z_unit (-n).toNat
    grind
theorem Z_addN (a b : Nat) : zS ((a : Int) - (b : Int)) = zs a * zc b - zc a * zs b ∧ zC ((a : Int) - (b : Int)) = zc a * zc b + zs a * zs b := by
  by_cases h : b ≤ a
  · rw [show (a : Int) - (b : Int) = ((a - b : Nat) : Int) by omega, zS_nat, zC_nat]
    exact z_sub h
  · obtain ⟨h1, h2⟩ := z_sub (a := b) (b := a) (by omega)
    rw [show (a : Int) - (b : Int) = -((b - a : Nat) : Int) by omega, zS_neg, zC_neg, zS_nat, zC_nat, h1, h2]
    constructor <;> grind
theorem Z_add (a b : Int) : zS (a + b) = zS a * zC b + zC a * zS b ∧ zC (a + b) = zC a * zC b - zS a * zS b := by
  have ha : ∃ m : Nat, a = (m : Int) ∨ a = -(m : Int) := ⟨a.natAbs, by omega⟩
  have hb : ∃ m : Nat, b = (m : Int) ∨ b = -(m : Int) := ⟨b.natAbs, by omega⟩
  obtain ⟨m, hm⟩ := ha
  obtain ⟨n, hn⟩ := hb
  rcases hm with rfl | rfl <;> rcases hn with rfl | rfl
  · obtain ⟨h1, h2⟩ := z_add m n
    rw [show (m : Int) + (n : Int) = ((m + n : Nat) : Int) by omega]
    simp only [zS_nat, zC_nat]
    exact ⟨h1, h2⟩
  · obtain ⟨h1, h2⟩ := Z_addN m n
    rw [show (m : Int) + -(n : Int) = (m : Int) - (n : Int) by omega, h1, h2]
    simp only [zS_nat, zC_nat, zS_neg, zC_neg]
    constructor <;> grind
  · obtain ⟨h1, h2⟩ := Z_addN n m
    rw [show -(m : Int) + (n : Int) = (n : Int) - (m : Int) by omega, h1, h2]
    simp only [zS_nat, zC_nat, zS_neg, zC_neg]
    constructor <;> grind
  · obtain ⟨h1, h2⟩ := z_add m n
    rw [show -(m : Int) + -(n : Int) = -((m + n : Nat) : Int) by omega]
    simp only [zS_nat, zC_nat, zS_neg, zC_neg]
    rw [h1, h2]
    constructor <;> grind
theorem Z_sub (a b : Int) : zS (a - b) = zS a * zC b - zC a * zS b ∧ zC (a - b) = zC a * zC b + zS a * zS b := by
  obtain ⟨h1, h2⟩ := Z_add a (-b)
  rw [Int.sub_eq_add_neg, h1, h2, zS_neg, zC_neg]
  constructor <;> grind
theorem Z_in (n : Int) : (-1 ≤ zS n ∧ zS n ≤ 1) ∧ -1 ≤ zC n ∧ zC n ≤ 1 := ⟨sq_one (Z_unit n), sq_one (y := zS n) (by have := Z_unit n; grind)⟩
theorem z_near : ∀ {r : Nat}, r ≤ 2700000 → Nr (zs r) (sinT r) (64 * (r : Rat) / k96) ∧ Nr (zc r) (cosT r) (64 * (r : Rat) / k96)
  | 0, _ => by
    rw [sin_zero, cos_zero, zs_0, zc_0]
    constructor
    · constructor <;> grind
    · constructor <;> grind
  | r + 1, h => by
    obtain ⟨h1, h2⟩ := z_near (r := r) (by omega)
    obtain ⟨h3, h4⟩ := one_near
    obtain ⟨u1, u2⟩ := unit_near
    have v1 := u1.trans h3
    have v2 := u2.trans h4
    have hs := sin_in (n := r) (by omega)
    have hx := xi_in (n := r) (by omega)
    have hc := cos_in (n := r) (by omega)
    have hs1 := sin_in (n := 1) (by omega)
    have hc1 := cos_in (n := 1) (by omega)
    have hx1 := xi_one
    have zu := z_unit r
    obtain ⟨z1, z2⟩ := sq_one zu
    obtain ⟨z3, z4⟩ := sq_one (x := zc r) (y := zs r) (by grind)
    have hr0 : (0 : Rat) ≤ (r : Rat) := by exact_mod_cast Nat.zero_le r
    have hr : (r : Rat) ≤ 2700000 := by exact_mod_cast (show r ≤ 2700000 by omega)
    have hk : 0 < 1 / k96 := by unfold k96; grind
    have he : eps ≤ 1 / k96 := by unfold eps k96; grind
    have p1 := h1.prod v2 z1 z2 (show -1 ≤ cosT 1 by grind) hc1.2
    have p2 := h2.prod v1 z3 z4 (show -(1 / 3437000) ≤ sinT 1 by grind) (show sinT 1 ≤ 1 / 3437000 by grind)
    have p3 := h2.prod v2 z3 z4 (show -1 ≤ cosT 1 by grind) hc1.2
    have p4 := h1.prod v1 z1 z2 (show -(1 / 3437000) ≤ sinT 1 by grind) (show sinT 1 ≤ 1 / 3437000 by grind)
    have q1 := (p1.add p2).trans (sin_step (n := r) (by omega)).symm
    have q2 := (p3.sub p4).trans (cos_step (n := r) (by omega)).symm
    rw [zs_s, zc_s]
    have e1 : 1 * (1 / k96 + 1 / k96) + 1 * (64 * (r : Rat) / k96) + (1 * (1 / k96 + 1 / k96) + 1 / 3437000 * (64 * (r : Rat) / k96)) + eps ≤ 64 * ((r + 1 : Nat) : Rat) / k96 := by
      have h5 := rmul hr0 hr (Rat.le_of_lt hk) (show 1 / k96 ≤ 1 / k96 by exact Rat.le_refl)
      push_cast
      grind
    exact ⟨q1.le e1, q2.le e1⟩
end Go.Proofs.YtnnmfdeeicpdlaaGreat
/- Rounded sums of series with alternating signs, by products that are rounded down; a circle with 192 binary digits. No program in sight. -/
namespace Go.Proofs.YtnnmfdeeicpdlaaGreat

def nexQ (M sq t d : Nat) : Nat := t * sq / M / (d * (d + 1))
def altQ (M sq : Nat) : Nat → Nat → Nat → Int
  | 0, _, _ => 0
  | f + 1, t, d => (t : Int) - altQ M sq f (nexQ M sq t d) (d + 2)
theorem nr_mulM {M a b : Nat} (hM : 0 < M) : Nr (((a * b / M : Nat) : Rat) / (M : Rat)) ((a : Rat) / (M : Rat) * ((b : Rat) / (M : Rat))) (3 / (M : Rat)) := by
  have h1 := Nat.div_mul_le_self (a * b) M
  have h2 : a * b < (a * b / M + 1) * M := Nat.lt_mul_of_div_lt (Nat.lt_succ_self _) hM
  have h3 : (a * b / M + 1) * M ≤ (a * b / M + 3) * M := Nat.mul_le_mul_right M (by omega)
  exact nr_mul (k := 3) hM h1 (Nat.le_trans (Nat.le_of_lt h2) h3)
theorem mulM_le {M a b : Nat} (hM : 0 < M) (hb : b ≤ M) : a * b / M ≤ a := by
  have := Nat.div_le_div_right (c := M) (Nat.mul_le_mul_left a hb)
  rwa [Nat.mul_div_cancel _ hM] at this
theorem nexQ_le {M sq t d : Nat} (hM : 0 < M) (hsq : sq ≤ M) (hd : 1 ≤ d) : nexQ M sq t d * 2 ≤ t := by
  unfold nexQ
  have h1 := mulM_le (a := t) hM hsq
  have h2 := Nat.div_mul_le_self (t * sq / M) (d * (d + 1))
  have h3 := Nat.mul_le_mul_left (t * sq / M / (d * (d + 1))) (dd_ge hd)
  omega
theorem altQ_zero {M sq : Nat} : ∀ {f d : Nat}, altQ M sq f 0 d = 0
  | 0, _ => rfl
  | f + 1, d => by
    have : nexQ M sq 0 d = 0 := by unfold nexQ; simp
    unfold altQ
    rw [this, altQ_zero]
    rfl
theorem altQ_more {M sq : Nat} (hM : 0 < M) (hsq : sq ≤ M) : ∀ {f t d : Nat}, 1 ≤ d → t < 2 ^ f → altQ M sq (f + 1) t d = altQ M sq f t d
  | 0, t, d, hd, ht => by
    obtain rfl : t = 0 := by omega
    rw [altQ_zero]; rfl
  | f + 1, t, d, hd, ht => by
    have hn := nexQ_le (t := t) hM hsq hd
    show (t : Int) - altQ M sq (f + 1) (nexQ M sq t d) (d + 2) = (t : Int) - altQ M sq f (nexQ M sq t d) (d + 2)
    rw [altQ_more hM hsq (f := f) (t := nexQ M sq t d) (d := d + 2) (by omega) (by rw [Nat.pow_succ] at ht; omega)]
theorem altQ_next {M sq f t d : Nat} (hM : 0 < M) (hsq : sq ≤ M) (hd : 1 ≤ d) (ht : t < 2 ^ f) : altQ M sq f t d = (t : Int) - altQ M sq f (nexQ M sq t d) (d + 2) := by
  have h := altQ_more hM hsq hd ht
  rw [← h]
  show (t : Int) - altQ M sq f (nexQ M sq t d) (d + 2) = _
  rfl
theorem altQ_ok {M sq : Nat} (hM : 0 < M) (hsq : sq ≤ M) : ∀ {f t d : Nat}, 1 ≤ d → t ≤ 2 ^ f → Nr ((altQ M sq f t d : Rat) / (M : Rat)) ((t : Rat) / (M : Rat) * (1 - tay ((sq : Rat) / (M : Rat)) d f)) ((1 + 3 * (f : Rat)) * (1 / (M : Rat)))
  | 0, t, d, hd, ht => by
    have hM2 : (0 : Rat) < (M : Rat) := by exact_mod_cast hM
    have hi : 0 ≤ 1 / (M : Rat) := by rw [Rat.div_def, Rat.one_mul]; exact Rat.le_of_lt (Rat.inv_pos.2 hM2)
    have h1 : (t : Rat) ≤ 1 := by exact_mod_cast ht
    have h0 : (0 : Rat) ≤ (t : Rat) := by exact_mod_cast Nat.zero_le t
    have h2 := rmul h0 h1 hi Rat.le_refl
    have h3 := rmul0 h0 hi
    unfold altQ tay
    have e0 : (((0 : Int) : Rat)) = 0 := rfl
    have e1 : (((0 : Nat) : Rat)) = 0 := rfl
    rw [e0, e1]
    constructor <;> grind
  | f + 1, t, d, hd, ht => by
    have hn := nexQ_le (t := t) hM hsq hd
    have ih := altQ_ok hM hsq (f := f) (t := nexQ M sq t d) (d := d + 2) (by omega) (by rw [Nat.pow_succ] at ht; omega)
    have hg := nr_mulM (a := t) (b := sq) hM
    have hdd := dd_ge hd
    have hq := nr_div (y := t * sq / M) hM (show 0 < d * (d + 1) by omega)
    simp only [altQ, tay]
    unfold nexQ at *
    have hM2 : (0 : Rat) < (M : Rat) := by exact_mod_cast hM
    have hi : 0 ≤ 1 / (M : Rat) := by rw [Rat.div_def, Rat.one_mul]; exact Rat.le_of_lt (Rat.inv_pos.2 hM2)
    have hy1 : (sq : Rat) / (M : Rat) ≤ 1 := by
      have := natB hM hsq
      rwa [show (M : Rat) / (M : Rat) = 1 by grind] at this
    have hy0 := nat0 (a := sq) hM
    obtain ⟨t0, t1⟩ := tay_in hy0 hy1 (m := f) (d := d + 2) (by omega)
    have h2 := two_le hd
    obtain ⟨r0, r1, r2⟩ := div_ge (show (0 : Rat) ≤ 1 by decide) h2
    have e1 : ((d * (d + 1) : Nat) : Rat) = (d : Rat) * ((d : Rat) + 1) := by push_cast; rfl
    rw [e1] at hq
    generalize t * sq / M / (d * (d + 1)) = n1 at *
    generalize ((t * sq / M : Nat) : Rat) / (M : Rat) = H at *
    generalize hk : (d : Rat) * ((d : Rat) + 1) = k at *
    generalize hT : tay ((sq : Rat) / (M : Rat)) (d + 2) f = T at *
    generalize (sq : Rat) / (M : Rat) = Y at *
    generalize altQ M sq f n1 (d + 2) = A at *
    have hg2 := hg.mulc r0 r1 hg.pos
    have e2 : 1 / k * H = H / k := by grind
    have e3 : 1 / k * ((t : Rat) / (M : Rat) * Y) = (t : Rat) / (M : Rat) * Y / k := by grind
    rw [e2, e3] at hg2
    have h5 := hq.trans hg2
    have h6 := h5.mulc (c := 1 - T) (m := 1) (by grind) (by grind) h5.pos
    have h7 := ih.trans (by rw [Rat.mul_comm]; exact h6)
    have h8 := (Nr.refl ((t : Rat) / (M : Rat))).sub h7
    have e4 : (((t : Int) - A : Int) : Rat) / (M : Rat) = (t : Rat) / (M : Rat) - (A : Rat) / (M : Rat) := by push_cast; grind
    have e5 : (t : Rat) / (M : Rat) * (1 - Y / k * (1 - T)) = (t : Rat) / (M : Rat) - (1 - T) * ((t : Rat) / (M : Rat) * Y / k) := by grind
    rw [e4, e5]
    refine h8.le ?_
    push_cast
    grind
def m192 : Nat := 6277101735386680763835789423207666416102355444464034512896
def piA : Nat := piN / 18446744073709551616
def tA (k : Nat) : Nat := k * piA / 10800000
def sqA (k : Nat) : Nat := tA k * tA k / m192
def sinA (k : Nat) : Int := altQ m192 (sqA k) 200 (tA k) 2
def cosA (k : Nat) : Int := altQ m192 (sqA k) 200 m192 1
theorem m192_pos : 0 < m192 := by decide +kernel
theorem m192_pow : m192 = 18446744073709551616 ^ 3 := by decide +kernel
end Go.Proofs.YtnnmfdeeicpdlaaGreat
/- The circle with 192 binary digits is near to the exact rotation. No program in sight. -/
namespace Go.Proofs.YtnnmfdeeicpdlaaGreat

theorem m192_rat : (0 : Rat) < (m192 : Rat) := by exact_mod_cast m192_pos
theorem m192_big : 1 / (m192 : Rat) ≤ 1 / 100000000000000000000000000000000000000000 := by
  have h : 100000000000000000000000000000000000000000 ≤ m192 := by decide +kernel
  have h2 : (100000000000000000000000000000000000000000 : Rat) ≤ (m192 : Rat) := by exact_mod_cast h
  refine Rat.le_of_mul_le_mul_right (c := (m192 : Rat)) ?_ m192_rat
  rw [Rat.div_mul_cancel (by have := m192_rat; grind)]
  grind
theorem piA_ok : piA * 18446744073709551616 ≤ piN ∧ piN ≤ (piA + 1) * 18446744073709551616 := by decide +kernel
theorem piD_at : piD = 18446744073709551616 * (m192 * 10800000) := by decide +kernel
theorem tA_near {k : Nat} (hk : k ≤ 2700000) : Nr ((tA k : Rat) / (m192 : Rat)) (xi k) (2 / (m192 : Rat)) := by
  obtain ⟨u1, u2⟩ := piA_ok
  have h1 := nfl (a := k * piA) (K := 10800000) (by decide)
  change Nr ((tA k : Nat) : Rat) _ _ at h1
  have hM := m192_rat
  have v1 : (piA : Rat) * 18446744073709551616 ≤ (piN : Rat) := by
    have := Rat.natCast_le_natCast.2 u1
    rw [Rat.natCast_mul] at this
    exact this
  have v2 : (piN : Rat) ≤ ((piA : Rat) + 1) * 18446744073709551616 := by
    have := Rat.natCast_le_natCast.2 u2
    rw [Rat.natCast_mul, Rat.natCast_add] at this
    exact this
  have hD : (piD : Rat) = 18446744073709551616 * ((m192 : Rat) * 10800000) := by
    have : ((piD : Nat) : Rat) = ((18446744073709551616 * (m192 * 10800000) : Nat) : Rat) := by rw [← piD_at]
    rw [this, Rat.natCast_mul, Rat.natCast_mul]
    rfl
  have hk2 : (k : Rat) ≤ 2700000 := by exact_mod_cast hk
  have hk0 : (0 : Rat) ≤ (k : Rat) := by exact_mod_cast Nat.zero_le k
  unfold xi
  rw [hD]
  rw [Rat.natCast_mul] at h1
  have hK : ((10800000 : Nat) : Rat) = 10800000 := rfl
  rw [hK] at h1
  generalize (piN : Rat) = N at *
  generalize (piA : Rat) = P at *
  generalize ((tA k : Nat) : Rat) = T at *
  generalize (m192 : Rat) = M at *
  obtain ⟨a1, a2⟩ := h1
  have hi : 0 < 1 / M := by rw [Rat.div_def, Rat.one_mul]; exact Rat.inv_pos.2 hM
  have y1 := Rat.mul_le_mul_of_nonneg_left v1 hk0
  have y2 := Rat.mul_le_mul_of_nonneg_left v2 hk0
  have e1 : (k : Rat) * (N / (18446744073709551616 * (M * 10800000))) = (k : Rat) * N / 18446744073709551616 / 10800000 * (1 / M) := by grind
  have e2 : T / M = T * (1 / M) := by grind
  have e3 : 2 / M = 2 * (1 / M) := by grind
  rw [e1, e2, e3]
  have b1 : T ≤ (k : Rat) * N / 18446744073709551616 / 10800000 + 2 := by grind
  have b2 : (k : Rat) * N / 18446744073709551616 / 10800000 ≤ T + 2 := by grind
  have c1 := Rat.mul_le_mul_of_nonneg_right b1 (Rat.le_of_lt hi)
  have c2 := Rat.mul_le_mul_of_nonneg_right b2 (Rat.le_of_lt hi)
  constructor <;> grind
theorem sqA_near {r : Nat} (hr : r ≤ 2700000) : sqA r ≤ m192 ∧ tA r ≤ m192 ∧ Nr ((sqA r : Rat) / (m192 : Rat)) (xi r * xi r) (7 / (m192 : Rat)) ∧ (tA r : Rat) / (m192 : Rat) ≤ 1 := by
  have hn := tA_near hr
  have hx4 := xi_in (n := r) (by omega)
  have hb := m192_big
  have hx1 : (tA r : Rat) / (m192 : Rat) ≤ 1 := by
    obtain ⟨a, b⟩ := hn; grind
  have hx2 : tA r ≤ m192 := by
    have h0 := m192_rat
    have := Rat.mul_le_mul_of_nonneg_right hx1 (Rat.le_of_lt h0)
    rw [Rat.div_mul_cancel (by grind), Rat.one_mul] at this
    exact_mod_cast this
  have hg := nr_mulM (a := tA r) (b := tA r) m192_pos
  have hx0 : 0 ≤ (tA r : Rat) / (m192 : Rat) := nat0 m192_pos
  have hp := hn.mul hn hx0 hx1 hx4.1 (show xi r ≤ 1 by grind)
  exact ⟨Nat.le_trans (mulM_le m192_pos hx2) hx2, hx2, (hg.trans hp).le (by grind), hx1⟩
theorem m192_fuel : m192 ≤ 2 ^ 200 := by decide +kernel
theorem sinA_near {r : Nat} (hr : r ≤ 2700000) : Nr ((sinA r : Rat) / (m192 : Rat)) (sinT r) sml := by
  obtain ⟨h1, h2, h3, h4⟩ := sqA_near hr
  have hx4 := xi_in (n := r) (by omega)
  have hq := sq_in hx4
  have ha := altQ_ok m192_pos h1 (f := 200) (t := tA r) (d := 2) (by decide) (Nat.le_trans h2 m192_fuel)
  have hb := m192_big
  have hy0 : 0 ≤ (sqA r : Rat) / (m192 : Rat) := nat0 m192_pos
  have hy1 : (sqA r : Rat) / (m192 : Rat) ≤ 1 := by obtain ⟨a, b⟩ := h3; grind
  have hx0 : 0 ≤ (tA r : Rat) / (m192 : Rat) := nat0 m192_pos
  have g1 := tay_arg hy0 hy1 hq.1 (by grind) h3 (m := 200) (d := 2) (by decide)
  have g2 := tay_more hq.1 (by grind) 186 (m := 14) (d := 2) (by decide)
  have g3 := (Nr.refl 1).sub (g1.trans g2)
  obtain ⟨t0, t1⟩ := tay_in hq.1 (by grind) (m := 14) (d := 2) (by decide)
  have g4 := (tA_near hr).mul g3 hx0 h4 (show 0 ≤ 1 - tay (xi r * xi r) 2 14 by grind) (show 1 - tay (xi r * xi r) 2 14 ≤ 1 by grind)
  have hf := facT_sml (d := 2) (by decide +kernel)
  have hm : 0 ≤ 1 / (m192 : Rat) := by rw [Rat.div_def, Rat.one_mul]; exact Rat.le_of_lt (Rat.inv_pos.2 m192_rat)
  unfold sinT sinA
  refine (ha.trans g4).le ?_
  have e64 : ((200 : Nat) : Rat) = 200 := rfl
  rw [e64]
  unfold sml at *
  generalize (m192 : Rat) = M at *
  grind
theorem cosA_near {r : Nat} (hr : r ≤ 2700000) : Nr ((cosA r : Rat) / (m192 : Rat)) (cosT r) sml := by
  obtain ⟨h1, h2, h3, h4⟩ := sqA_near hr
  have hx4 := xi_in (n := r) (by omega)
  have hq := sq_in hx4
  have ha := altQ_ok m192_pos h1 (f := 200) (t := m192) (d := 1) (by decide) m192_fuel
  have hb := m192_big
  have hy0 : 0 ≤ (sqA r : Rat) / (m192 : Rat) := nat0 m192_pos
  have hy1 : (sqA r : Rat) / (m192 : Rat) ≤ 1 := by obtain ⟨a, b⟩ := h3; grind
  have g1 := tay_arg hy0 hy1 hq.1 (by grind) h3 (m := 200) (d := 1) (by decide)
  have g2 := tay_more hq.1 (by grind) 186 (m := 14) (d := 1) (by decide)
  have g3 := (Nr.refl 1).sub (g1.trans g2)
  have hf := facT_sml (d := 1) (by decide +kernel)
  have hm : 0 ≤ 1 / (m192 : Rat) := by rw [Rat.div_def, Rat.one_mul]; exact Rat.le_of_lt (Rat.inv_pos.2 m192_rat)
  have hmm : (m192 : Rat) / (m192 : Rat) = 1 := by have := m192_rat; grind
  unfold cosT cosA
  rw [hmm, Rat.one_mul] at ha
  refine (ha.trans g3).le ?_
  have e64 : ((200 : Nat) : Rat) = 200 := rfl
  rw [e64]
  unfold sml at *
  generalize (m192 : Rat) = M at *
  grind
def siA (k : Nat) : Int := if 2700000 < k then cosA (5400000 - k) else sinA k
def coA (k : Nat) : Int := if 2700000 < k then sinA (5400000 - k) else cosA k
end Go.Proofs.YtnnmfdeeicpdlaaGreat
/- The exact rotation's sines lie in the cells that the program finds, and not near to their borders. No program in sight. -/
namespace Go.Proofs.YtnnmfdeeicpdlaaGreat
open Go.RowKit

theorem thirdS_ab : (2 * evI lisS 1800000 - facW).natAbs * 1267650600228229401496703205376 ≤ 2 * facW := by decide +kernel
theorem sin_third : Nr (sinT 1800000) (1 / 2) eps := by
  have h2 : sinT 1800000 * (facW : Rat) = ((evI lisS 1800000 : Int) : Rat) := lisS_ok 1800000
  have hM := eps_of (M := (2 * evI lisS 1800000 - facW).natAbs) (W := 2 * facW) thirdS_ab
  have hW := facW_rat
  refine nr_of_int (W := 2 * (facW : Rat)) (x := 2 * evI lisS 1800000 - facW) (by grind) ?_ (Nat.le_refl _) (by push_cast at hM; exact hM)
  rw [show (sinT 1800000 - 1 / 2) * (2 * (facW : Rat)) = 2 * (sinT 1800000 * (facW : Rat)) - (facW : Rat) by grind, h2]
  generalize evI lisS 1800000 = u
  push_cast
  rfl
def e60 : Rat := 1 / 73786976294838206464
theorem near60 {r : Nat} (h : r ≤ 2700000) : 64 * (r : Rat) / k96 ≤ 1 / 442721857769029238784 := by
  have hr : (r : Rat) ≤ 2700000 := by exact_mod_cast h
  unfold k96
  grind
theorem q_near : -e60 ≤ zC 5400000 ∧ zC 5400000 ≤ e60 ∧ 1 - e60 ≤ zS 5400000 ∧ zS 5400000 ≤ 1 := by
  obtain ⟨h1, h2⟩ := z_near (r := 2700000) (by decide)
  have h3 := near60 (r := 2700000) (by decide)
  have h4 := (h1.trans sin_mid).trans h2.symm
  have he : eps ≤ 1 / 442721857769029238784 := by unfold eps; grind
  obtain ⟨a1, a2⟩ := z_add 2700000 2700000
  rw [show (5400000 : Int) = ((2700000 + 2700000 : Nat) : Int) from rfl, zS_nat, zC_nat, a1, a2]
  have u := z_unit 2700000
  obtain ⟨b1, b2⟩ := sq_one u
  obtain ⟨b3, b4⟩ := sq_one (x := zc 2700000) (y := zs 2700000) (by grind)
  generalize zs 2700000 = s at *
  generalize zc 2700000 = c at *
  have d : Nr s c (1 / 147573952589676412928) := h4.le (by grind)
  obtain ⟨d1, d2⟩ := d
  obtain ⟨p1, p2⟩ := rabs (m := 2) (f := 1 / 147573952589676412928) (x := c + s) (y := c - s) (by grind) (by grind) (by grind) (by grind)
  obtain ⟨q1, q2⟩ := rabs (m := 1 / 147573952589676412928) (f := 1 / 147573952589676412928) (x := c - s) (y := c - s) (by grind) (by grind) (by grind) (by grind)
  have sq0 : 0 ≤ (c - s) * (c - s) := by
    rcases (Rat.le_total : (0 : Rat) ≤ (c - s) ∨ (c - s) ≤ 0) with g | g
    · exact rmul0 g g
    · have := rmul0 (show 0 ≤ -(c - s) by grind) (show 0 ≤ -(c - s) by grind); grind
  unfold e60
  refine ⟨?_, ?_, ?_, ?_⟩ <;> grind
theorem q_natz : -e60 ≤ zc 5400000 ∧ zc 5400000 ≤ e60 ∧ 1 - e60 ≤ zs 5400000 ∧ zs 5400000 ≤ 1 := by
  have h := q_near
  rw [show (5400000 : Int) = ((5400000 : Nat) : Int) from rfl, zS_nat, zC_nat] at h
  exact h
structure CellE (n : Int) (t g : Rat) : Prop where
  lo : (bLo n : Rat) ≤ 1073741824 * zS n + t
  hi : 1073741824 * zS n ≤ (bHi n : Rat) + t
  up : 1073741824 * zS n + g ≤ (bLo n : Rat) + 1
  dn : (bHi n : Rat) + g ≤ 1073741824 * zS n + 1
theorem CellE.same {n m : Int} {t g d t' g' : Rat} (h : CellE n t g) (hn : Nr (zS m) (zS n) d) (h1 : bLo m = bLo n) (h2 : bHi m = bHi n) (ht : t + 1073741824 * d ≤ t') (hg : g' + 1073741824 * d ≤ g) : CellE m t' g' := by
  obtain ⟨a1, a2, a3, a4⟩ := h
  obtain ⟨n1, n2⟩ := hn
  have e1 : (bLo m : Rat) = (bLo n : Rat) := by rw [h1]
  have e2 : (bHi m : Rat) = (bHi n : Rat) := by rw [h2]
  constructor <;> simp only [e1, e2] <;> grind
theorem CellE.opp {n m : Int} {t g d t' g' : Rat} (h : CellE n t g) (hn : Nr (zS m) (-(zS n)) d) (h1 : bLo m = -(bHi n)) (h2 : bHi m = -(bLo n)) (ht : t + 1073741824 * d ≤ t') (hg : g' + 1073741824 * d ≤ g) : CellE m t' g' := by
  obtain ⟨a1, a2, a3, a4⟩ := h
  obtain ⟨n1, n2⟩ := hn
  have e1 : (bLo m : Rat) = -(bHi n : Rat) := by rw [h1]; push_cast; rfl
  have e2 : (bHi m : Rat) = -(bLo n : Rat) := by rw [h2]; push_cast; rfl
  constructor <;> simp only [e1, e2] <;> grind
theorem near_zs {r : Nat} (h : r ≤ 2700000) : Nr (zs r) (sinT r) (1 / 442721857769029238784) ∧ Nr (zc r) (cosT r) (1 / 442721857769029238784) :=
  ⟨(z_near h).1.le (near60 h), (z_near h).2.le (near60 h)⟩
theorem cell_bt {f : Nat} {v z : Rat} (hb : Bt f v) (hn : Nr z v (1 / 442721857769029238784)) : (f : Rat) + 1 / 8388608 ≤ 1073741824 * z ∧ 1073741824 * z + 1 / 8388608 ≤ (f : Rat) + 1 := by
  obtain ⟨b1, b2⟩ := hb
  obtain ⟨n1, n2⟩ := hn
  constructor <;> grind
theorem cell_q {m : Nat} (h : m ≤ 5400000) : ((sinQ m : Nat) : Rat) ≤ 1073741824 * zs m + 1 / 17179869184 ∧ 1073741824 * zs m ≤ ((hiQ m : Int) : Rat) + 1 / 17179869184 ∧ 1073741824 * zs m + 1 / 9000000 ≤ ((sinQ m : Nat) : Rat) + 1 ∧ ((hiQ m : Int) : Rat) + 1 / 9000000 ≤ 1073741824 * zs m + 1 := by
  have exact : ∀ {k : Nat}, sinQ m = k → hiQ m = (k : Int) → Nr (1073741824 * zs m) (k : Rat) (1 / 17179869184) → ((sinQ m : Nat) : Rat) ≤ 1073741824 * zs m + 1 / 17179869184 ∧ 1073741824 * zs m ≤ ((hiQ m : Int) : Rat) + 1 / 17179869184 ∧ 1073741824 * zs m + 1 / 9000000 ≤ ((sinQ m : Nat) : Rat) + 1 ∧ ((hiQ m : Int) : Rat) + 1 / 9000000 ≤ 1073741824 * zs m + 1 := fun {k} h1 h2 h3 => by
    rw [h1, h2]
    obtain ⟨n1, n2⟩ := h3
    push_cast
    refine ⟨?_, ?_, ?_, ?_⟩ <;> grind
  have inner : ∀ {f : Nat}, sinQ m = f → hiQ m = (f : Int) + 1 → (f : Rat) + 1 / 8500000 ≤ 1073741824 * zs m ∧ 1073741824 * zs m + 1 / 8500000 ≤ (f : Rat) + 1 → ((sinQ m : Nat) : Rat) ≤ 1073741824 * zs m + 1 / 17179869184 ∧ 1073741824 * zs m ≤ ((hiQ m : Int) : Rat) + 1 / 17179869184 ∧ 1073741824 * zs m + 1 / 9000000 ≤ ((sinQ m : Nat) : Rat) + 1 ∧ ((hiQ m : Int) : Rat) + 1 / 9000000 ≤ 1073741824 * zs m + 1 := fun {f} h1 h2 h3 => by
    rw [h1, h2]
    obtain ⟨n1, n2⟩ := h3
    push_cast
    refine ⟨?_, ?_, ?_, ?_⟩ <;> grind
  have hu : hiQ m = (sinQ m : Int) + oneQ m := rfl
  have ho := oneQ_at m
  by_cases c0 : m = 0
  · subst c0
    refine exact (k := 0) sinQ_0 (by rw [hu, ho, sinQ_0]; rfl) ?_
    rw [zs_0]
    constructor <;> grind
  by_cases c1 : m = 1800000
  · subst c1
    refine exact (k := 536870912) sinQ_h (by rw [hu, ho, sinQ_h, if_pos (.inr (.inl rfl)), Int.add_zero]) ?_
    have h1 := (near_zs (r := 1800000) (by decide)).1.trans sin_third
    have he : eps ≤ 1 / 442721857769029238784 := by unfold eps; grind
    obtain ⟨n1, n2⟩ := h1
    generalize zs 1800000 = z at *
    push_cast
    constructor <;> grind
  by_cases c2 : m = 5400000
  · subst c2
    refine exact (k := 1073741824) sinQ_q (by rw [hu, ho, sinQ_q, if_pos (.inr (.inr rfl)), Int.add_zero]) ?_
    obtain ⟨h1, h2, h3, h4⟩ := q_natz
    unfold e60 at h3
    generalize zs 5400000 = z at *
    push_cast
    constructor <;> grind
  rw [if_neg (by omega)] at ho
  rw [ho] at hu
  by_cases c3 : m ≤ 2700000
  · have hs := sinQ_s c0 c1 c3
    rw [hs] at hu
    have := cell_bt (octS_bt (r := m) (by omega) c3 c1) (near_zs c3).1
    exact inner hs hu (by obtain ⟨n1, n2⟩ := this; constructor <;> grind)
  · have hs := sinQ_c (n := m) (by omega) (by omega)
    rw [hs] at hu
    obtain ⟨k, hk⟩ : ∃ k, 5400000 - m = k := ⟨_, rfl⟩
    rw [hk] at hs hu
    have hb := cell_bt (octC_bt (r := k) (by omega) (by omega)) (near_zs (r := k) (by omega)).2
    refine inner hs hu ?_
    obtain ⟨z1, -⟩ := z_sub (a := 5400000) (b := k) (by omega)
    rw [show 5400000 - k = m by omega] at z1
    obtain ⟨q1, q2, q3, q4⟩ := q_natz
    generalize zs 5400000 = zq at *
    generalize zc 5400000 = cq at *
    have u := z_unit k
    obtain ⟨b1, b2⟩ := sq_one u
    obtain ⟨b3, b4⟩ := sq_one (x := zc k) (y := zs k) (by grind)
    obtain ⟨p1, p2⟩ := rabs (x := zq - 1) (y := zc k) (m := e60) (f := 1) (by grind) (by unfold e60 at *; grind) b3 b4
    obtain ⟨p3, p4⟩ := rabs (x := cq) (y := zs k) (m := e60) (f := 1) (by grind) (by grind) b1 b2
    rw [z1]
    unfold e60 at *
    obtain ⟨n1, n2⟩ := hb
    constructor <;> grind
theorem cell_1 {n : Int} (h0 : 0 ≤ n) (h1 : n ≤ 5400000) : CellE n (1 / 17179869184) (1 / 9000000) := by
  obtain ⟨m, rfl⟩ := Int.eq_ofNat_of_zero_le h0
  obtain ⟨e1, e2⟩ := b_one h0 h1
  have h := cell_q (m := m) (by omega)
  rw [Int.toNat_natCast] at e1 e2
  obtain ⟨a1, a2, a3, a4⟩ := h
  constructor
  · rw [e1, zS_nat]; push_cast; exact a1
  · rw [e2, zS_nat]; exact a2
  · rw [e1, zS_nat]; push_cast; exact a3
  · rw [e2, zS_nat]; exact a4
theorem cell_2 {n : Int} (h0 : -5400000 ≤ n) (h1 : n ≤ 5400000) : CellE n (1 / 17179869184) (1 / 9000000) := by
  by_cases h : 0 ≤ n
  · exact cell_1 h h1
  · obtain ⟨b1, b2⟩ := b_odd (n := -n) (by omega) (by omega)
    rw [Int.neg_neg] at b1 b2
    refine (cell_1 (n := -n) (by omega) (by omega)).opp (d := 0) ?_ b1 b2 (by grind) (by grind)
    rw [zS_neg]
    constructor <;> grind
theorem half_near : -(2 * e60) ≤ zS 10800000 ∧ zS 10800000 ≤ 2 * e60 ∧ -1 ≤ zC 10800000 ∧ zC 10800000 ≤ -1 + 3 * e60 := by
  obtain ⟨q1, q2, q3, q4⟩ := q_near
  obtain ⟨a1, a2⟩ := Z_add 5400000 5400000
  rw [show (5400000 : Int) + 5400000 = 10800000 from rfl] at a1 a2
  have hz := (Z_in 10800000).2.1
  rw [a2] at hz
  rw [a1, a2]
  clear a1 a2
  generalize zS 5400000 = s at *
  generalize zC 5400000 = c at *
  have he : (0 : Rat) < e60 ∧ e60 ≤ 1 / 1000 := by unfold e60; constructor <;> grind
  generalize e60 = e at *
  obtain ⟨p1, p2⟩ := rabs (x := s) (y := c) (m := 1) (f := e) (by grind) q4 q1 q2
  obtain ⟨p3, p4⟩ := rabs (x := c) (y := c) (m := e) (f := e) q1 q2 q1 q2
  have p5 := rmul (a := 1 - e) (b := s) (c := 1 - e) (d := s) (by grind) q3 (by grind) q3
  have p6 := rmul (a := e) (b := 1 / 1000) (c := e) (d := e) (by grind) (by grind) (by grind) (by grind)
  refine ⟨?_, ?_, hz, ?_⟩ <;> grind
theorem turn_near : -(5 * e60) ≤ zS 21600000 ∧ zS 21600000 ≤ 5 * e60 ∧ 1 - 7 * e60 ≤ zC 21600000 ∧ zC 21600000 ≤ 1 := by
  obtain ⟨q1, q2, q3, q4⟩ := half_near
  obtain ⟨a1, a2⟩ := Z_add 10800000 10800000
  rw [show (10800000 : Int) + 10800000 = 21600000 from rfl] at a1 a2
  have hz := (Z_in 21600000).2.2
  rw [a2] at hz
  rw [a1, a2]
  clear a1 a2
  generalize zS 10800000 = s at *
  generalize zC 10800000 = c at *
  have he : (0 : Rat) < e60 ∧ e60 ≤ 1 / 1000 := by unfold e60; constructor <;> grind
  generalize e60 = e at *
  obtain ⟨p1, p2⟩ := rabs (x := c) (y := s) (m := 1) (f := 2 * e) (by grind) (by grind) q1 q2
  obtain ⟨p3, p4⟩ := rabs (x := s) (y := s) (m := 2 * e) (f := 2 * e) q1 q2 q1 q2
  have p5 := rmul (a := 1 - 3 * e) (b := -c) (c := 1 - 3 * e) (d := -c) (by grind) (by grind) (by grind) (by grind)
  have p6 := rmul (a := e) (b := 1 / 1000) (c := e) (d := e) (by grind) (by grind) (by grind) (by grind)
  refine ⟨?_, ?_, ?_, hz⟩ <;> grind
def t31 : Rat := 1 / 2147483648
def g24 : Rat := 1 / 16777216
theorem zS_refl (m : Int) : Nr (zS (10800000 - m)) (zS m) (6 * e60) := by
  obtain ⟨q1, q2, q3, q4⟩ := half_near
  obtain ⟨a1, -⟩ := Z_sub 10800000 m
  obtain ⟨⟨b1, b2⟩, b3, b4⟩ := Z_in m
  rw [a1]
  clear a1
  generalize zS 10800000 = s at *
  generalize zC 10800000 = c at *
  generalize zS m = x at *
  generalize zC m = y at *
  have he : (0 : Rat) < e60 ∧ e60 ≤ 1 / 1000 := by unfold e60; constructor <;> grind
  generalize e60 = e at *
  obtain ⟨p1, p2⟩ := rabs (x := s) (y := y) (m := 2 * e) (f := 1) q1 q2 b3 b4
  obtain ⟨p3, p4⟩ := rabs (x := c + 1) (y := x) (m := 3 * e) (f := 1) (by grind) (by grind) b1 b2
  constructor <;> grind
theorem zS_turn (m : Int) : Nr (zS (m + 21600000)) (zS m) (12 * e60) := by
  obtain ⟨q1, q2, q3, q4⟩ := turn_near
  obtain ⟨a1, -⟩ := Z_add m 21600000
  obtain ⟨⟨b1, b2⟩, b3, b4⟩ := Z_in m
  rw [a1]
  clear a1
  generalize zS 21600000 = s at *
  generalize zC 21600000 = c at *
  generalize zS m = x at *
  generalize zC m = y at *
  have he : (0 : Rat) < e60 ∧ e60 ≤ 1 / 1000 := by unfold e60; constructor <;> grind
  generalize e60 = e at *
  obtain ⟨p1, p2⟩ := rabs (x := s) (y := y) (m := 5 * e) (f := 1) q1 q2 b3 b4
  obtain ⟨p3, p4⟩ := rabs (x := c - 1) (y := x) (m := 7 * e) (f := 1) (by grind) (by grind) b1 b2
  constructor <;> grind
theorem cell_3 {n : Int} (h0 : -5400000 ≤ n) (h1 : n ≤ 16200000) : CellE n (1 / 6000000000) (1 / 10000000) := by
  have he : 1073741824 * (6 * e60) ≤ 1 / 10000000000 := by unfold e60; grind
  by_cases h : n ≤ 5400000
  · refine (cell_2 h0 h).same (d := 0) ?_ rfl rfl (by grind) (by grind)
    constructor <;> grind
  · have hn := zS_refl (10800000 - n)
    rw [show 10800000 - (10800000 - n) = n by omega] at hn
    refine (cell_2 (n := 10800000 - n) (by omega) (by omega)).same hn ?_ ?_ (by grind) (by grind)
    · by_cases g : n ≤ 10800000
      · rw [(b_two (n := n) (by omega) g).1, (b_one (n := 10800000 - n) (by omega) (by omega)).1]
      · rw [(b_three (n := n) (by omega) h1).1, (b_four (n := 10800000 - n) (by omega) (by omega)).1, show (-(10800000 - n)) = n - 10800000 by omega]
    · by_cases g : n ≤ 10800000
      · rw [(b_two (n := n) (by omega) g).2, (b_one (n := 10800000 - n) (by omega) (by omega)).2]
      · rw [(b_three (n := n) (by omega) h1).2, (b_four (n := 10800000 - n) (by omega) (by omega)).2, show (-(10800000 - n)) = n - 10800000 by omega]
theorem cell_all {n : Int} (h0 : -5400000 ≤ n) (h1 : n ≤ 27000000) : CellE n t31 g24 := by
  have he : 1073741824 * (12 * e60) ≤ 1 / 5000000000 := by unfold e60; grind
  by_cases h : n ≤ 16200000
  · refine (cell_3 h0 h).same (d := 0) ?_ rfl rfl (by unfold t31; grind) (by unfold g24; grind)
    constructor <;> grind
  · have hn := zS_turn (n - 21600000)
    rw [show n - 21600000 + 21600000 = n by omega] at hn
    have hb := b_shift (n - 21600000) 1
    rw [show n - 21600000 + 21600000 * 1 = n by omega] at hb
    exact (cell_3 (n := n - 21600000) (by omega) (by omega)).same hn hb.1 hb.2 (by unfold t31; grind) (by unfold g24; grind)
end Go.Proofs.YtnnmfdeeicpdlaaGreat
/- The program's arcsines. -/
namespace Go.Proofs.YtnnmfdeeicpdlaaGreat
set_option maxRecDepth 100000
open Go.RowKit

theorem tg_Below (n v : Int) (w : World) :
    Calls Tryz.prog 196 #[.int .i64 n, .int .i64 v] w fun e w' => e = .returned (.int .i64 (belI n v)) ∧ ∃ d, w' = bw w d := by
  have HB := Lib.hid (fun W => tg_bounds n W)
  have h1 := (bb_le n).1
  have h2 := bHi_one n
  unfold belI
  generalize bLo n = lo at *
  generalize bHi n = hi at *
  by_cases c1 : hi ≤ v
  · by_cases c2 : lo < v
    · rw [if_pos ⟨c1, c2⟩]
      have c3 : v ≥ hi := c1
      clear h1 h2
      refine lay_start ?_
      go_enter Tryz.func196, Tryz.ntmps196
      go_wp2_with (go_at_call 180; refine (HB.out _).mono ?_; rintro e w' ⟨rfl, d1, rfl⟩; rw [lay_bw])
      go_ret
      exact ⟨rfl, lay_ex _ _⟩
    · rw [if_neg (fun h => c2 h.2), if_neg (by omega), if_pos (by omega)]
      obtain rfl : v = lo := by omega
      have c4 : ¬ v < hi := by omega
      have c5 : (v == v) = true := beq_iff_eq.2 rfl
      clear h1 h2
      refine lay_start ?_
      go_enter Tryz.func196, Tryz.ntmps196
      go_wp2_with (go_at_call 180; refine (HB.out _).mono ?_; rintro e w' ⟨rfl, d1, rfl⟩; rw [lay_bw])
      go_ret
      exact ⟨rfl, lay_ex _ _⟩
  · by_cases c2 : v ≤ lo
    · rw [if_neg (fun h => c1 h.1), if_pos ⟨c2, by omega⟩]
      have c3 : v < hi := by omega
      clear h1 h2
      refine lay_start ?_
      go_enter Tryz.func196, Tryz.ntmps196
      go_wp2_with (go_at_call 180; refine (HB.out _).mono ?_; rintro e w' ⟨rfl, d1, rfl⟩; rw [lay_bw])
      go_ret
      exact ⟨rfl, lay_ex _ _⟩
    · exact False.elim (by omega)
set_option maxHeartbeats 1000000 in
theorem ar_asin (v : Int) (hv : -1073741824 ≤ v) (w : World) :
    Calls Tryz.prog 121 #[.int .i64 v] w fun e w' => e = .returned (.int .i64 (asnI v)) ∧ ∃ d, w' = bw w d := by
  have HB := Lib.hid (fun n W => tg_Below n v W)
  obtain ⟨R, hR⟩ : ∃ R, asnI v = R := ⟨_, rfl⟩
  have HR : Hid (∀ r, IsAsn v r → r = R) := Lib.hid fun r h => by rw [← hR]; exact (asnI_eq h).symm
  rw [hR]
  have HV := Lib.hid hv
  clear hR hv
  refine lay_start ?_
  go_enter Tryz.func121, Tryz.ntmps121
  go_wp2_with fail
  go_loopw [3, 4] (fun v3 v4 wr => ∃ (l h : Int) (dd : Ext), v3 = .int .i64 l ∧ v4 = .int .i64 h ∧ wr = lay w [.inr dd] ∧ -5400000 ≤ l ∧ l < h ∧ h ≤ 5400001 ∧ bHi l ≤ v ∧ (h = 5400001 ∨ v < bHi h)) (fun v3 v4 _ => (intOf v4 - intOf v3).toNat)
  case atStart => exact ⟨-5400000, 5400001, noExt _, rfl, rfl, (bw_noExt _).symm, by decide, by decide, by decide, by rw [b_bot]; exact HV.out, .inl rfl⟩
  case round =>
    obtain ⟨l, h, dd, rfl, rfl, rfl, hl, hlh, hh, hA, hB⟩ := hrel
    have HA := Lib.hid hA
    have HB2 := Lib.hid hB
    clear hA hB
    have k1 : IntKind.i64.wrap (h - l) = h - l := IntWalk.i64_in _ (by omega)
    by_cases c : 1 < h - l
    · obtain ⟨X, hX⟩ : ∃ X, l + h = X := ⟨_, rfl⟩
      obtain ⟨m, hm⟩ : ∃ m, X / 2 = m := ⟨_, rfl⟩
      have k2 : IntKind.i64.wrap (l + h) = X := by rw [hX]; exact IntWalk.i64_in _ (by omega)
      have hml : l < m ∧ m < h := by omega
      have HLH := Lib.hid (And.intro hl (And.intro hlh (And.intro hh hml)))
      have HI := Lib.hid (belI_iff m v)
      have HBm := Lib.hid (fun W => HB.out m W)
      clear hX hl hlh hh hml
      by_cases cb : belI m v ≤ 0
      · have HLe := Lib.hid (HI.out.1 cb)
        generalize belI m v = r at *
        go_wp2_with (go_at_call 196; refine (HBm.out _).mono ?_; rintro e w' ⟨rfl, d1, rfl⟩; rw [lay_bw])
        obtain ⟨g1, g2, g3, g4, g5⟩ := HLH.out
        obtain ⟨de, hde⟩ := lay_all w [.inr d1, .inr dd]
        exact ⟨⟨_, _, de, rfl, rfl, hde, by omega, by omega, g3, HLe.out, HB2.out⟩, by simp only [intOf]; omega⟩
      · have HLe := Lib.hid (fun h' => cb (HI.out.2 h'))
        generalize belI m v = r at *
        go_wp2_with (go_at_call 196; refine (HBm.out _).mono ?_; rintro e w' ⟨rfl, d1, rfl⟩; rw [lay_bw])
        obtain ⟨g1, g2, g3, g4, g5⟩ := HLH.out
        obtain ⟨de, hde⟩ := lay_all w [.inr d1, .inr dd]
        have hlt : v < bHi m := Int.not_le.1 HLe.out
        exact ⟨⟨_, _, de, rfl, rfl, hde, g1, by omega, by omega, HA.out, .inr hlt⟩, by simp only [intOf]; omega⟩
    · have hR : l = R := by
        refine HR.out l ⟨hl, by omega, HA.out, ?_⟩
        have hhl : h = l + 1 := by omega
        subst hhl
        rcases HB2.out with h1 | h1
        · left; omega
        · right; exact h1
      clear hl hlh hh HA HB2 HR
      subst hR
      go_wp2_with fail
      go_ret
      exact ⟨rfl, lay_ex _ _⟩
end Go.Proofs.YtnnmfdeeicpdlaaGreat
/- arctrig: part, Asin, Acos, Ahav. -/
namespace Go.Proofs.YtnnmfdeeicpdlaaGreat
set_option maxRecDepth 100000
open Go.RowKit

theorem asE_at (lo hi : Int) : asE lo hi = if fxB lo hi = false then 1 else if mn hi 1073741824 < mx lo (-1073741824) then 2 else 0 := by unfold asE fxB; rfl
theorem ar_part (a0 a1 lo hi : Int) (w : World) :
    Calls Tryz.prog 120 #[(.agg #[.int .i64 (a0), .int .i64 (a1)]), .int .i64 lo, .int .i64 hi] w fun e w' => e = .returned (.tuple #[(.agg #[.int .i64 (mx a0 lo), .int .i64 (mn a1 hi)]), .bool (decide (mx a0 lo ≤ mn a1 hi))]) ∧ ∃ d, w' = bw w d := by
  refine lay_start ?_
  go_enter Tryz.func120, Tryz.ntmps120
  go_wp2_with fail
  go_region
  go_wp2_with fail
  exact bodyPost_ret (v := .tuple #[(.agg #[.int .i64 (mx a0 lo), .int .i64 (mn a1 hi)]), .bool (decide (mx a0 lo ≤ mn a1 hi))]) (by simp [results, Tryz.results120, go_sem]) rfl ⟨rfl, by rw [bw_drewExt, lay_bw]; exact lay_ex _ _⟩
theorem ar_Asin (lo hi : Int) (w : World) :
    Calls Tryz.prog 46 #[(.agg #[.int .i64 (lo), .int .i64 (hi)])] w fun e w' => e = .returned (.tuple #[(.agg #[.int .i64 (asL lo hi), .int .i64 (asH lo hi)]), .int .i64 (asE lo hi)]) ∧ ∃ d, w' = bw w d := by
  have HV := Lib.hid (fun W => fx_ValidG lo hi W)
  have HP := Lib.hid (fun W => ar_part lo hi (-1073741824) 1073741824 W)
  unfold asL asH
  rw [asE_at]
  cases h : fxB lo hi
  · rw [h] at HV
    clear h HP
    rw [if_pos rfl, if_neg (show ¬ ((1 : Int) = 0) by decide), if_neg (show ¬ ((1 : Int) = 0) by decide)]
    refine lay_start ?_
    go_enter Tryz.func46, Tryz.ntmps46
    go_wp2_with (go_at_call 116; refine (HV.out _).mono ?_; rintro e w' ⟨rfl, d, rfl⟩)
    exact bodyPost_ret (v := .tuple #[(.agg #[.int .i64 (0), .int .i64 (0)]), .int .i64 1]) (by simp [results, Tryz.results46, go_sem]) rfl ⟨rfl, lay_ex _ _⟩
  · rw [h] at HV
    have hb := fxB_iff.1 h
    have hx : -1073741824 ≤ mx lo (-1073741824) := by rw [mx_eq]; omega
    have hn : mn hi 1073741824 ≤ 1073741824 := by rw [mn_eq]; omega
    have hn2 : -2147483648 ≤ mn hi 1073741824 := by rw [mn_eq]; omega
    have hd : (mn hi 1073741824 < mx lo (-1073741824)) ∨ mx lo (-1073741824) ≤ mn hi 1073741824 := by omega
    have H1 := Lib.hid (fun W => ar_asin (mx lo (-1073741824)) hx W)
    have H2 := Lib.hid (fun W => ar_asin (-(mn hi 1073741824)) (by omega) W)
    have i1 := asnI_in (v := mx lo (-1073741824)) hx
    have i2 := asnI_in (v := -(mn hi 1073741824)) (by omega)
    clear h
    generalize mx lo (-1073741824) = x at *
    generalize mn hi 1073741824 = y at *
    generalize asnI x = u at *
    obtain ⟨y', hy'⟩ : ∃ y', -y = y' := ⟨_, rfl⟩
    have ky : IntKind.i64.wrap (-y) = y' := by rw [hy']; exact IntWalk.i64_in _ (by omega)
    rw [hy'] at H2 i2
    rw [hy']
    generalize asnI y' = v at *
    have kv : IntKind.i64.wrap (-v) = -v := IntWalk.i64_in _ (by omega)
    clear hb hx hn hn2 i1 i2 hy'
    rcases hd with hd | hd
    · rw [show decide (x ≤ y) = false from decide_eq_false (by omega)] at HP
      rw [if_neg (show ¬ (true = false) by decide), if_pos hd, if_neg (show ¬ ((2 : Int) = 0) by decide), if_neg (show ¬ ((2 : Int) = 0) by decide)]
      refine lay_start ?_
      go_enter Tryz.func46, Tryz.ntmps46
      go_wp2_with (first | (go_at_call 116; refine (HV.out _).mono ?_; rintro e w' ⟨rfl, d, rfl⟩) | (go_at_call 120; refine (HP.out _).mono ?_; rintro e w' ⟨rfl, d2, rfl⟩))
      exact bodyPost_ret (v := .tuple #[(.agg #[.int .i64 (0), .int .i64 (0)]), .int .i64 2]) (by simp [results, Tryz.results46, go_sem]) rfl ⟨rfl, lay_ex _ _⟩
    · rw [show decide (x ≤ y) = true from decide_eq_true (by omega)] at HP
      rw [if_neg (show ¬ (true = false) by decide), if_neg (show ¬ (y < x) by omega), if_pos rfl, if_pos rfl]
      refine lay_start ?_
      go_enter Tryz.func46, Tryz.ntmps46
      go_wp2_with (first | (go_at_call 116; refine (HV.out _).mono ?_; rintro e w' ⟨rfl, d, rfl⟩) | (go_at_call 120; refine (HP.out _).mono ?_; rintro e w' ⟨rfl, d2, rfl⟩))
      refine region_bw_tail 9 (by kernel_rfl) (by kernel_rfl) ?_
      simp only [List.take_succ_cons, List.take_zero, List.drop_succ_cons, List.drop_zero]
      repeat (go_big_quiet_step ((first | (go_at_call 121; first | (with_reducible exact bq (H1.out _) (fun d => lay_join _ _ _ d)) | (with_reducible exact bq (H1.out _) (fun d => ⟨d, rfl⟩)) | (with_reducible exact bq (H2.out _) (fun d => lay_join _ _ _ d)) | (with_reducible exact bq (H2.out _) (fun d => ⟨d, rfl⟩))))))
      refine wpQuiet_nil ?_
      rintro w' ⟨d, rfl⟩
      rw [lay_bw]
      go_wp2_with fail
      exact bodyPost_ret (v := .tuple #[(.agg #[.int .i64 (u), .int .i64 (-v)]), .int .i64 0]) (by simp [results, Tryz.results46, go_sem]) rfl ⟨rfl, lay_ex _ _⟩
end Go.Proofs.YtnnmfdeeicpdlaaGreat

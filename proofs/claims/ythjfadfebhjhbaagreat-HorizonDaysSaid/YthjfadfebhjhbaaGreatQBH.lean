/- Contracts and plain laws, several texts in one: NeQ; Hz0; Rq; Rs; Ru -/
import Derived.Test.YthjfadfebhjhbaaGreatProg
import Derived.WalkKit
import Derived.WalkSpells
import Derived.WalkLawsBesides
import Derived.Lib.Hide
import Derived.BigQuiet
import Derived.Test.YthjfadfebhjhbaaGreatQAA
import Derived.Test.YthjfadfebhjhbaaGreatQAB
import Derived.Test.YthjfadfebhjhbaaGreatQAZ
import Derived.Test.YthjfadfebhjhbaaGreatQBC
import Derived.Test.YthjfadfebhjhbaaGreatQBD
import Derived.Test.YthjfadfebhjhbaaGreatQBG
/- An ex-meridian altitude has the latitude: the plain law, second part. No program in sight. -/
namespace Go.Proofs.YthjfadfebhjhbaaGreat
open Go.RowKit

theorem sq_nn (x : Rat) : 0 ≤ x * x := by
  rcases (Rat.le_total : (0 : Rat) ≤ x ∨ x ≤ 0) with g | g
  · exact rmul0 g g
  · have := rmul0 (show 0 ≤ -x by grind) (show 0 ≤ -x by grind); grind
theorem alt_unit (lat dec : Int) {z : Rat} (z0 : -1 ≤ z) (z1 : z ≤ 1) : -1 ≤ zS lat * zS dec + zC lat * zC dec * z ∧ zS lat * zS dec + zC lat * zC dec * z ≤ 1 := by
  have u := Z_unit lat
  have v := Z_unit dec
  generalize zS lat = a at *
  generalize zC lat = b at *
  generalize zS dec = c at *
  generalize zC dec = d at *
  have s1 := sq_nn (a - c)
  have s2 := sq_nn (a + c)
  have s3 := sq_nn (b - d)
  have s4 := sq_nn (b + d)
  obtain ⟨p1, p2⟩ := rabs (x := z) (y := b * d) (m := 1) (f := (b * b + d * d) / 2) z0 z1 (by grind) (by grind)
  constructor <;> grind
theorem castlt {a b : Int} (h : (a : Rat) < (b : Rat)) : a < b := by exact_mod_cast h
theorem alt_some {lat dec lha : Int} (h0 : -5400000 ≤ lat) (h1 : lat ≤ 5400000) (g0 : -5400000 ≤ dec) (g1 : dec ≤ 5400000) :
    asE (altS0 lat lat dec dec lha lha) (altS1 lat lat dec dec lha lha) = 0 ∧ -5400000 ≤ asL (altS0 lat lat dec dec lha lha) (altS1 lat lat dec dec lha lha) ∧ asL (altS0 lat lat dec dec lha lha) (altS1 lat lat dec dec lha lha) ≤ asH (altS0 lat lat dec dec lha lha) (altS1 lat lat dec dec lha lha) ∧ asH (altS0 lat lat dec dec lha lha) (altS1 lat lat dec dec lha lha) ≤ 5400000 := by
  obtain ⟨-, z0, z1⟩ := Z_in (lha % 21600000)
  obtain ⟨X0, X1⟩ := alt_unit lat dec z0 z1
  obtain ⟨a, b⟩ := alt_InR (lha := lha) h0 h1 g0 g1
  have hf := alt_fx lat lat dec dec lha lha
  have hf' := fxB_iff.1 hf
  generalize altS0 lat lat dec dec lha lha = S0 at *
  generalize altS1 lat lat dec dec lha lha = S1 at *
  generalize zS lat * zS dec + zC lat * zC dec * zC (lha % 21600000) = X at *
  have t0 : 10 * t30 < 1 := by unfold t30; grind
  have c0 : (S0 : Rat) < ((1073741825 : Int) : Rat) := by push_cast; grind
  have c1 : ((-1073741825 : Int) : Rat) < (S1 : Rat) := by push_cast; grind
  have d0 : S0 < 1073741825 := castlt c0
  have d1 : -1073741825 < S1 := castlt c1
  have hE : asE S0 S1 = 0 := by rw [asE_at, hf, if_neg (by decide), mn_eq, mx_eq, if_neg (by omega)]
  refine ⟨hE, ?_⟩
  unfold asL asH
  rw [if_pos hE, if_pos hE]
  have i1 := asnI_in (v := mx S0 (-1073741824)) (by rw [mx_eq]; omega)
  have i2 := asnI_in (v := -(mn S1 1073741824)) (by rw [mn_eq]; omega)
  have hs := asn_sum (y := mx S0 (-1073741824)) (by rw [mx_eq]; omega) (by rw [mx_eq]; omega)
  have hm := asnI_mono (v := -(mn S1 1073741824)) (u := -(mx S0 (-1073741824))) (by rw [mn_eq]; omega) (by rw [mx_eq, mn_eq]; omega)
  omega
end Go.Proofs.YthjfadfebhjhbaaGreat
/- Altitudes of arcs: a part's altitude lies within the whole's. Plain Lean. -/
namespace Go.Proofs.YthjfadfebhjhbaaGreat
open Go.RowKit Go.Shelf

theorem metB_sh (lo hi n k : Int) : metB (lo + 21600000 * k) (hi + 21600000 * k) n = metB lo hi n := by
  unfold metB
  rw [decide_eq_decide]
  omega
theorem enc_turn (lo hi k : Int) : encL (lo + 21600000 * k) (hi + 21600000 * k) = encL lo hi ∧ encH (lo + 21600000 * k) (hi + 21600000 * k) = encH lo hi := by
  rw [encL_at, encL_at, encH_at, encH_at, metB_sh, metB_sh, (b_shift lo k).1, (b_shift lo k).2, (b_shift hi k).1, (b_shift hi k).2]
  exact ⟨rfl, rfl⟩
theorem enc_dia {x0 y0 x1 y1 : Int} (h : x0 ≤ y0) (d : Dia x0 y0 x1 y1) : encL x1 y1 ≤ encL x0 y0 ∧ encH x0 y0 ≤ encH x1 y1 := by
  have e := @enc_in x0 y0
  rcases d with d | ⟨d1, d2⟩
  · have m1 : metB x1 y1 16200000 = true := by unfold metB; rw [decide_eq_true_eq]; omega
    have m2 : metB x1 y1 5400000 = true := by unfold metB; rw [decide_eq_true_eq]; omega
    rw [encL_at x1, encH_at x1, m1, m2, if_pos rfl, if_pos rfl]
    omega
  · have t := enc_turn x0 y0 (-((x0 - x1) / 21600000))
    have p := enc_part (lo := x1) (hi := y1) (x := x0 + 21600000 * (-((x0 - x1) / 21600000))) (y := y0 + 21600000 * (-((x0 - x1) / 21600000))) (by omega) (by omega) (by omega)
    rw [t.1, t.2] at p
    exact p
theorem cos_dia {x0 y0 x1 y1 : Int} (h : x0 ≤ y0) (d : Dia x0 y0 x1 y1) : cosL x1 y1 ≤ cosL x0 y0 ∧ cosH x0 y0 ≤ cosH x1 y1 := by
  unfold cosL cosH
  exact enc_dia (by omega) (d.add (Int.le_refl _))
theorem alt_part {a0 a1 b0 b1 c0 c1 p0 p1 q0 q1 r0 r1 : Int} (h0 : a0 ≤ p0) (h : p0 ≤ p1) (h1 : p1 ≤ a1) (g0 : b0 ≤ q0) (g : q0 ≤ q1) (g1 : q1 ≤ b1) (hc : r0 ≤ r1) (d : Dia r0 r1 c0 c1) :
    altS0 a0 a1 b0 b1 c0 c1 ≤ altS0 p0 p1 q0 q1 r0 r1 ∧ altS1 p0 p1 q0 q1 r0 r1 ≤ altS1 a0 a1 b0 b1 c0 c1 := by
  have e1 := enc_part h0 h h1
  have e2 := enc_part g0 g g1
  have c1' : cosL a0 a1 ≤ cosL p0 p1 ∧ cosH p0 p1 ≤ cosH a0 a1 := by unfold cosL cosH; exact enc_part (by omega) (by omega) (by omega)
  have c2' : cosL b0 b1 ≤ cosL q0 q1 ∧ cosH q0 q1 ≤ cosH b0 b1 := by unfold cosL cosH; exact enc_part (by omega) (by omega) (by omega)
  have c3' := cos_dia hc d
  have m1 := mul_part e1.1 enc_in.2.1 e1.2 e2.1 enc_in.2.1 e2.2
  have m2 : ccL a0 a1 b0 b1 ≤ ccL p0 p1 q0 q1 ∧ ccH p0 p1 q0 q1 ≤ ccH a0 a1 b0 b1 := mul_part c1'.1 (cos_in2 _ _).2.1 c1'.2 c2'.1 (cos_in2 _ _).2.1 c2'.2
  have m3 := mul_part m2.1 (cc_in _ _ _ _).2.1 m2.2 c3'.1 (cos_in2 _ _).2.1 c3'.2
  unfold altS0 altS1 ssL ssH c3L c3H
  omega
theorem as_part {L H l h : Int} (hE : asE L H = 0) (hl : l ≤ L) (hh : H ≤ h) (hf : fxB l h = true) : asE l h = 0 ∧ asL l h ≤ asL L H ∧ asH L H ≤ asH l h ∧ -5400000 ≤ asL l h ∧ asH l h ≤ 5400000 := by
  have hE2 : asE l h = 0 := by
    have hE' := hE
    rw [asE_at] at hE' ⊢
    rw [hf, if_neg (by decide)]
    rw [mn_eq, mx_eq] at *
    split at hE'
    · omega
    · split at hE' <;> split <;> omega
  have m1 := asnI_mono (v := mx l (-1073741824)) (u := mx L (-1073741824)) (by rw [mx_eq]; omega) (by rw [mx_eq, mx_eq]; omega)
  have m2 := asnI_mono (v := -(mn h 1073741824)) (u := -(mn H 1073741824)) (by rw [mn_eq]; omega) (by rw [mn_eq, mn_eq]; omega)
  have i1 := asnI_in (v := mx l (-1073741824)) (by rw [mx_eq]; omega)
  have i2 := asnI_in (v := -(mn h 1073741824)) (by rw [mn_eq]; omega)
  unfold asL asH
  rw [if_pos hE, if_pos hE, if_pos hE2, if_pos hE2]
  omega
theorem alt_someG {a0 a1 b0 b1 c0 c1 : Int} (ha : latB a0 a1 = true) (hb : latB b0 b1 = true) (hc : c0 ≤ c1) :
    asE (altS0 a0 a1 b0 b1 c0 c1) (altS1 a0 a1 b0 b1 c0 c1) = 0 ∧ -5400000 ≤ asL (altS0 a0 a1 b0 b1 c0 c1) (altS1 a0 a1 b0 b1 c0 c1) ∧ asL (altS0 a0 a1 b0 b1 c0 c1) (altS1 a0 a1 b0 b1 c0 c1) ≤ asH (altS0 a0 a1 b0 b1 c0 c1) (altS1 a0 a1 b0 b1 c0 c1) ∧ asH (altS0 a0 a1 b0 b1 c0 c1) (altS1 a0 a1 b0 b1 c0 c1) ≤ 5400000 := by
  obtain ⟨u1, u2, u3⟩ := latB_iff.1 ha
  obtain ⟨v1, v2, v3⟩ := latB_iff.1 hb
  have p := alt_some (lat := a0) (dec := b0) (lha := c0) u2 (by omega) v2 (by omega)
  have q := alt_part (Int.le_refl a0) (Int.le_refl a0) u1 (Int.le_refl b0) (Int.le_refl b0) v1 (Int.le_refl c0) (Dia.sub (x1 := c0) (y1 := c1) (Int.le_refl c0) (Int.le_refl c0) hc)
  have r := as_part p.1 q.1 q.2 (alt_fx _ _ _ _ _ _)
  omega
noncomputable def hzS0 (lp : List PgV) (ls : List StarV) (s : ByteArray) (a b u v x y : Int) : Int := altS0 u v (whR lp ls s a b).1.c (whR lp ls s a b).1.d (lhaL lp ls s a b x y) (lhaH lp ls s a b x y)
noncomputable def hzS1 (lp : List PgV) (ls : List StarV) (s : ByteArray) (a b u v x y : Int) : Int := altS1 u v (whR lp ls s a b).1.c (whR lp ls s a b).1.d (lhaL lp ls s a b x y) (lhaH lp ls s a b x y)
noncomputable def hzL (lp : List PgV) (ls : List StarV) (s : ByteArray) (a b u v x y : Int) : Int := if lhaE lp ls s a b x y = 0 then asL (hzS0 lp ls s a b u v x y) (hzS1 lp ls s a b u v x y) else 0
noncomputable def hzH (lp : List PgV) (ls : List StarV) (s : ByteArray) (a b u v x y : Int) : Int := if lhaE lp ls s a b x y = 0 then asH (hzS0 lp ls s a b u v x y) (hzS1 lp ls s a b u v x y) else 0
theorem bodyR_dec {lp : List PgV} {s : ByteArray} {a b : Int} (h : (bodyR lp s a b).2 = 0) : -5400000 ≤ (bodyR lp s a b).1.c ∧ (bodyR lp s a b).1.d ≤ 5400000 := by
  cases h1 : trkAt lp s (a / 86400000) with
  | none => rw [bodyR_no h1] at h; cases h
  | some t =>
    by_cases e : a / 86400000 = b / 86400000
    · rw [bodyR_one h1 e]; unfold spanV; simp only; rw [mx_eq, mn_eq]; omega
    · cases h2 : trkAt lp s (b / 86400000) with
      | none => rw [bodyR_no2 h1 e h2] at h; cases h
      | some u => rw [bodyR_two h1 e h2]; unfold joinV spanV; simp only; rw [mx_eq, mx_eq, mn_eq, mn_eq, mn_eq, mx_eq]; omega
theorem whR_dec {lp : List PgV} {ls : List StarV} {s : ByteArray} {a b : Int} (h : (whR lp ls s a b).2 = 0) : -5400000 ≤ (whR lp ls s a b).1.c ∧ (whR lp ls s a b).1.d ≤ 5400000 := by
  cases whW lp ls s a b with
  | bad k => rw [whR_bad k] at h; cases h
  | name t k => rw [whR_name t k] at h; cases h
  | wide t k d => rw [whR_wide t k d] at h; cases h
  | aries t d k => rw [whR_aries t d k]; simp only; omega
  | star i x t d k f g e => rw [whR_star t d k f e]; simp only; unfold dcL dcH; rw [mx_eq, mn_eq]; omega
  | body t d k f g c => rw [whR_body t d k g c] at h ⊢; exact bodyR_dec h
variable {lp : List PgV} {ls : List StarV} {s : ByteArray}
theorem lhaE_z {a b x y : Int} : lhaE lp ls s a b x y = 0 ↔ timB a b = true ∧ validB x y = true ∧ (whR lp ls s a b).2 = 0 := by
  unfold lhaE
  cases timB a b
  · simp
  · cases validB x y
    · simp
    · simp
theorem lha_is {a b x y : Int} (h : lhaE lp ls s a b x y = 0) : lhaL lp ls s a b x y = turnLo ((whR lp ls s a b).1.a + turnLo x y) ((whR lp ls s a b).1.b + turnHi x y) ∧ lhaH lp ls s a b x y = turnHi ((whR lp ls s a b).1.a + turnLo x y) ((whR lp ls s a b).1.b + turnHi x y) := by
  unfold lhaL lhaH
  rw [if_pos h, if_pos h]
  exact ⟨rfl, rfl⟩
structure HzOk (lp : List PgV) (ls : List StarV) (s : ByteArray) (a b u v x y : Int) : Prop where
  dec : latB (whR lp ls s a b).1.c (whR lp ls s a b).1.d = true
  lha : validB (lhaL lp ls s a b x y) (lhaH lp ls s a b x y) = true
  asn : asE (hzS0 lp ls s a b u v x y) (hzS1 lp ls s a b u v x y) = 0
  lo : -5400000 ≤ hzL lp ls s a b u v x y
  le : hzL lp ls s a b u v x y ≤ hzH lp ls s a b u v x y
  hi : hzH lp ls s a b u v x y ≤ 5400000
theorem hz_ok {a b u v x y : Int} (k : NewOk lp ls) (hu : latB u v = true) (h : lhaE lp ls s a b x y = 0) : HzOk lp ls s a b u v x y := by
  obtain ⟨t, vx, w0⟩ := lhaE_z.1 h
  have r := whR_right k.ok k.cat w0
  have d := whR_dec w0
  have f := whR_tf k.ok w0
  obtain ⟨e1, e2⟩ := lha_is h
  have tb := turn_bd (validB_iff.1 vx).1
  have hd : latB (whR lp ls s a b).1.c (whR lp ls s a b).1.d = true := latB_iff.2 ⟨(validB_iff.1 r.2.2.2.1).1, d.1, d.2⟩
  have hl : validB (lhaL lp ls s a b x y) (lhaH lp ls s a b x y) = true := by rw [e1, e2]; exact turn_valid (by have := f.h2; omega)
  have q := alt_someG hu hd (validB_iff.1 hl).1
  refine ⟨hd, hl, q.1, ?_, ?_, ?_⟩
  · unfold hzL; rw [if_pos h]; exact q.2.1
  · unfold hzL hzH; rw [if_pos h, if_pos h]; exact q.2.2.1
  · unfold hzH; rw [if_pos h]; exact q.2.2.2
end Go.Proofs.YthjfadfebhjhbaaGreat
/- The reference's quick sine of the first eighth of a turn. -/
namespace Go.Proofs.YthjfadfebhjhbaaGreat
open Go.RowKit

theorem shr31 (a : Nat) : (a : Int) / 2147483648 = ((a / 2147483648 : Nat) : Int) := (Int.natCast_ediv a 2147483648).symm
theorem i64_and31 (n : Int) : bits .and .i64 n 2147483647 = n % 2147483648 := by
  have h127 : (BitVec.ofInt 64 2147483647).toNat = 2 ^ 31 - 1 := by decide
  have key : (BitVec.ofInt 64 n &&& BitVec.ofInt 64 2147483647).toNat = (n % ((2 ^ 64 : Nat) : Int)).toNat % 2 ^ 31 := by
    rw [BitVec.toNat_and, BitVec.toNat_ofInt, h127, Nat.and_two_pow_sub_one_eq_mod]
  show IntKind.i64.wrap ((BitVec.ofInt 64 n &&& BitVec.ofInt 64 2147483647).toNat : Nat) = n % 2147483648
  rw [key, IntKind.wrap_i64]
  omega
theorem high_bd {h a b : Nat} (hh : 0 < h) (ha : a ≤ h * h) (hb : b ≤ h * h) : a / h ≤ h ∧ b / h ≤ h ∧ a % h < h ∧ b % h < h :=
  ⟨Nat.div_le_of_le_mul ha, Nat.div_le_of_le_mul hb, Nat.mod_lt _ hh, Nat.mod_lt _ hh⟩
set_option maxHeartbeats 1000000 in
set_option maxRecDepth 100000 in
theorem r6_high (a b : Nat) (w : World) (ha : a ≤ 4611686018427387904) (hb : b ≤ 4611686018427387904) :
    Calls Tryz.prog 287 #[.int .i64 (a : Int), .int .i64 (b : Int)] w fun e w' => e = .returned (.int .i64 (higN h31 a b : Int)) ∧ w' = w := by
  obtain ⟨h1, h2, h3, h4⟩ := high_bd (h := 2147483648) (a := a) (b := b) (by decide) ha hb
  rw [show higN h31 a b = a / 2147483648 * (b / 2147483648) + a / 2147483648 * (b % 2147483648) / 2147483648 + a % 2147483648 * (b / 2147483648) / 2147483648 from rfl]
  have ea := shr31 a
  have eb := shr31 b
  have ma := i64_and31 (a : Int)
  have mb := i64_and31 (b : Int)
  rw [show (a : Int) % 2147483648 = ((a % 2147483648 : Nat) : Int) from (Int.natCast_emod a 2147483648).symm] at ma
  rw [show (b : Int) % 2147483648 = ((b % 2147483648 : Nat) : Int) from (Int.natCast_emod b 2147483648).symm] at mb
  obtain ⟨a1, ha1⟩ : ∃ a1, a / 2147483648 = a1 := ⟨_, rfl⟩
  obtain ⟨b1, hb1⟩ : ∃ b1, b / 2147483648 = b1 := ⟨_, rfl⟩
  obtain ⟨a0, ha0⟩ : ∃ a0, a % 2147483648 = a0 := ⟨_, rfl⟩
  obtain ⟨b0, hb0⟩ : ∃ b0, b % 2147483648 = b0 := ⟨_, rfl⟩
  rw [ha1] at ea h1 ⊢
  rw [hb1] at eb h2 ⊢
  rw [ha0] at ma h3 ⊢
  rw [hb0] at mb h4 ⊢
  have p1 : a1 * b1 ≤ 2147483648 * 2147483648 := Nat.mul_le_mul h1 h2
  have p2 : a1 * b0 ≤ 2147483648 * 2147483648 := Nat.mul_le_mul h1 (by omega)
  have p3 : a0 * b1 ≤ 2147483648 * 2147483648 := Nat.mul_le_mul (by omega) h2
  obtain ⟨x, hx⟩ : ∃ x, a1 * b1 = x := ⟨_, rfl⟩
  obtain ⟨y, hy⟩ : ∃ y, a1 * b0 = y := ⟨_, rfl⟩
  obtain ⟨z, hz⟩ : ∃ z, a0 * b1 = z := ⟨_, rfl⟩
  have ex : (a1 : Int) * (b1 : Int) = (x : Int) := by rw [← hx]; exact (Int.natCast_mul _ _).symm
  have ey : (a1 : Int) * (b0 : Int) = (y : Int) := by rw [← hy]; exact (Int.natCast_mul _ _).symm
  have ez : (a0 : Int) * (b1 : Int) = (z : Int) := by rw [← hz]; exact (Int.natCast_mul _ _).symm
  rw [hx] at p1 ⊢
  rw [hy] at p2 ⊢
  rw [hz] at p3 ⊢
  have ky := shr31 y
  have kz := shr31 z
  obtain ⟨y1, hy1⟩ : ∃ y1, y / 2147483648 = y1 := ⟨_, rfl⟩
  obtain ⟨z1, hz1⟩ : ∃ z1, z / 2147483648 = z1 := ⟨_, rfl⟩
  have by1 : y1 ≤ 2147483648 := by omega
  have bz1 : z1 ≤ 2147483648 := by omega
  rw [hy1] at ky ⊢
  rw [hz1] at kz ⊢
  have kx : IntKind.i64.wrap (x : Int) = x := IntWalk.i64_in _ (by omega)
  have kyw : IntKind.i64.wrap (y : Int) = y := IntWalk.i64_in _ (by omega)
  have kzw : IntKind.i64.wrap (z : Int) = z := IntWalk.i64_in _ (by omega)
  obtain ⟨s1, hs1⟩ : ∃ s1 : Int, (x : Int) + (y1 : Int) = s1 := ⟨_, rfl⟩
  obtain ⟨s2, hs2⟩ : ∃ s2 : Int, s1 + (z1 : Int) = s2 := ⟨_, rfl⟩
  have ks1 : IntKind.i64.wrap s1 = s1 := IntWalk.i64_in _ (by omega)
  have ks2 : IntKind.i64.wrap s2 = s2 := IntWalk.i64_in _ (by omega)
  rw [show ((x + y1 + z1 : Nat) : Int) = s2 by omega]
  clear hx hy hz hy1 hz1 ha1 hb1 ha0 hb0 p1 p2 p3 h1 h2 h3 h4 by1 bz1 ha hb
  go_enter Tryz.func287, Tryz.ntmps287
  go_wp2_with fail
  go_ret
  exact ⟨rfl, rfl⟩
def qkV (r : Nat) (c : Bool) : Int := altS h31 (higN h31 (quiX r) (quiX r)) 64 (if c then h31 * h31 else quiX r) (if c then 1 else 2)
structure QkI (sq t0 : Nat) (V : Int) (t d : Nat) (sm : Int) : Prop where
  ex : ∃ f, f ≤ 32 ∧ d + 4 * f ≤ 130 ∧ t < 2 ^ (2 * f) ∧ sm + altS h31 sq (2 * f) t d = V
  d1 : 1 ≤ d
  s0 : 0 ≤ sm
  st : sm + t ≤ t0
theorem QkI.done {sq t0 d : Nat} {V sm : Int} (h : QkI sq t0 V 0 d sm) : sm = V := by
  obtain ⟨f, -, -, -, hv⟩ := h.ex
  rw [altS_zero] at hv
  omega
theorem QkI.step {sq t0 t d t1 t2 : Nat} {V sm : Int} (h : QkI sq t0 V t d sm) (hsq : sq ≤ h31 * h31) (ht : 0 < t) (h1 : nexT h31 sq t d = t1) (h2 : nexT h31 sq t1 (d + 2) = t2) :
    QkI sq t0 V t2 (d + 4) (sm + t - t1) ∧ t1 * 2 ≤ t ∧ t2 * 2 ≤ t1 ∧ d ≤ 126 := by
  obtain ⟨f, hf, hdf, htf, hv⟩ := h.ex
  have l1 := nexT_le (sq := sq) (t := t) (d := d) h31_pos hsq h.d1
  have l2 := nexT_le (sq := sq) (t := t1) (d := d + 2) h31_pos hsq (by have := h.d1; omega)
  rw [h1] at l1
  rw [h2] at l2
  have hst := h.st
  have hs0 := h.s0
  match f, hf, hdf, htf, hv with
  | 0, _, _, htf, _ => exfalso; simp at htf; omega
  | f + 1, hf, hdf, htf, hv =>
    refine ⟨⟨⟨f, by omega, by omega, ?_, ?_⟩, by omega, by omega, by omega⟩, l1, l2, by omega⟩
    · rw [show 2 * (f + 1) = 2 * f + 2 by omega, Nat.pow_add] at htf
      omega
    · rw [show 2 * (f + 1) = 2 * f + 1 + 1 by omega] at hv
      simp only [altS] at hv
      rw [h1, h2, show d + 2 + 2 = d + 4 by omega] at hv
      omega
theorem tdiv_nat (g D t : Nat) (h : g / D = t) : (g : Int).tdiv (D : Int) = (t : Int) ∧ (g : Int) / (D : Int) = (t : Int) := by
  have e : (g : Int) / (D : Int) = (t : Int) := by rw [← h]; exact (Int.natCast_ediv g D).symm
  exact ⟨by rw [Int.tdiv_eq_ediv_of_nonneg (by omega)]; exact e, e⟩
set_option maxHeartbeats 4000000 in
set_option maxRecDepth 100000 in
theorem r6_quick (r : Nat) (c : Bool) (w : World) (hr : r ≤ 2700000) :
    Calls Tryz.prog 273 #[.int .i64 (r : Int), .bool c] w fun e w' => e = .returned (.int .i64 (qkV r c)) ∧ ∃ d, w' = bw w d := by
  obtain ⟨hs1, hs2, -, -⟩ := quiSq hr
  rw [show h31 * h31 = 4611686018427387904 from rfl] at hs1 hs2
  have HX := Lib.hid (fun W => r6_high (quiX r) (quiX r) W hs2 hs2)
  obtain ⟨p, hp⟩ : ∃ p, r * 2620088056 = p := ⟨_, rfl⟩
  obtain ⟨p2, hp2⟩ : ∃ p2, p * 512 = p2 := ⟨_, rfl⟩
  obtain ⟨q, hq⟩ : ∃ q, r * 658911831 = q := ⟨_, rfl⟩
  obtain ⟨q2, hq2⟩ : ∃ q2, q / 4194304 = q2 := ⟨_, rfl⟩
  obtain ⟨X, hX⟩ : ∃ X, quiX r = X := ⟨_, rfl⟩
  have hX2 : p2 + q2 = X := by rw [← hX, ← hp2, ← hq2, ← hp, ← hq]; rfl
  obtain ⟨SQ, hSQ⟩ : ∃ SQ, higN h31 X X = SQ := ⟨_, rfl⟩
  unfold qkV
  rw [hX] at HX hs1 hs2 ⊢
  rw [hSQ] at HX hs1 ⊢
  have e1 : (r : Int) * 2620088056 = (p : Int) := by omega
  have k1 : IntKind.i64.wrap (p : Int) = (p : Int) := IntWalk.i64_in _ (by omega)
  have e2 : (p : Int) * 512 = (p2 : Int) := by omega
  have k2 : IntKind.i64.wrap (p2 : Int) = (p2 : Int) := IntWalk.i64_in _ (by omega)
  have e3 : (r : Int) * 658911831 = (q : Int) := by omega
  have k3 : IntKind.i64.wrap (q : Int) = (q : Int) := IntWalk.i64_in _ (by omega)
  have e4 : (q : Int) / 4194304 = (q2 : Int) := by omega
  have e5 : (p2 : Int) + (q2 : Int) = (X : Int) := by omega
  have k5 : IntKind.i64.wrap (X : Int) = (X : Int) := IntWalk.i64_in _ (by omega)
  have hsq : Hid (SQ ≤ h31 * h31 ∧ SQ ≤ 4611686018427387904) := Lib.hid ⟨hs1, hs1⟩
  have hXb := Lib.hid hs2
  clear hs1 hs2 hX hX2 hSQ hp hp2 hq hq2 hr
  refine lay_start ?_
  cases c
  · obtain ⟨V, hV⟩ : ∃ V, altS h31 SQ 64 (if false = true then h31 * h31 else X) (if false = true then 1 else 2) = V := ⟨_, rfl⟩
    rw [hV]
    rw [if_neg (by decide), if_neg (by decide)] at hV
    have HI : Hid (QkI SQ X V X 2 0) := Lib.hid ⟨⟨32, by decide, by decide, Nat.lt_of_le_of_lt hXb.out (by decide), by rw [Int.zero_add]; exact hV⟩, by decide, by decide, by omega⟩
    have HB : Hid (X ≤ 4611686018427387904) := hXb
    clear hV
    go_enter Tryz.func273, Tryz.ntmps273
    go_wp2_with (go_at_call 287; refine (HX.out _).mono ?_; rintro e w' ⟨rfl, hw⟩; rw [hw]; clear hw)
    go_loopw [7, 8, 9] (fun v7 v8 v9 wr => ∃ (t dn : Nat) (sm : Int) (dd : Ext), v7 = .int .i64 (t : Int) ∧ v8 = .int .i64 (dn : Int) ∧ v9 = .int .i64 sm ∧ wr = lay w [.inr dd] ∧ QkI SQ X V t dn sm) (fun v7 _ _ _ => (intOf v7).toNat)
    case atStart => exact ⟨X, 2, 0, noExt _, rfl, rfl, rfl, (bw_noExt _).symm, HI.out⟩
    case round =>
      obtain ⟨t, dn, sm, dd, rfl, rfl, rfl, rfl, hI⟩ := hrel
      by_cases ht0 : t = 0
      · subst ht0
        have hd := hI.done
        subst hd
        clear hI
        go_wp2_with fail
        go_ret
        exact ⟨rfl, lay_ex _ _⟩
      · obtain ⟨t1, h1⟩ : ∃ t1, nexT h31 SQ t dn = t1 := ⟨_, rfl⟩
        obtain ⟨t2, h2⟩ : ∃ t2, nexT h31 SQ t1 (dn + 2) = t2 := ⟨_, rfl⟩
        obtain ⟨hI2, l1, l2, ldn⟩ := hI.step hsq.out.1 (by omega) h1 h2
        have hst := hI.st
        have hs0 := hI.s0
        have hd1 := hI.d1
        have hB2 := HB.out
        have hst2 := hI2.st
        have hs02 := hI2.s0
        obtain ⟨D1, hD1⟩ : ∃ D1, dn * (dn + 1) = D1 := ⟨_, rfl⟩
        obtain ⟨D2, hD2⟩ : ∃ D2, (dn + 2) * (dn + 2 + 1) = D2 := ⟨_, rfl⟩
        have hD1b : 1 ≤ D1 ∧ D1 ≤ 40000 := by
          rw [← hD1]
          exact ⟨Nat.le_trans (by decide) (Nat.mul_le_mul hd1 (show 1 ≤ dn + 1 by omega)), Nat.le_trans (Nat.mul_le_mul (show dn ≤ 200 by omega) (show dn + 1 ≤ 200 by omega)) (by decide)⟩
        have hD2b : 1 ≤ D2 ∧ D2 ≤ 40000 := by
          rw [← hD2]
          exact ⟨Nat.le_trans (by decide) (Nat.mul_le_mul (show 1 ≤ dn + 2 by omega) (show 1 ≤ dn + 2 + 1 by omega)), Nat.le_trans (Nat.mul_le_mul (show dn + 2 ≤ 200 by omega) (show dn + 2 + 1 ≤ 200 by omega)) (by decide)⟩
        obtain ⟨g1, hg1⟩ : ∃ g1, higN h31 t SQ = g1 := ⟨_, rfl⟩
        obtain ⟨g2, hg2⟩ : ∃ g2, higN h31 t1 SQ = g2 := ⟨_, rfl⟩
        have H1 := Lib.hid (fun W => r6_high t SQ W (by omega) hsq.out.2)
        have H2 := Lib.hid (fun W => r6_high t1 SQ W (by omega) hsq.out.2)
        rw [hg1] at H1
        rw [hg2] at H2
        have q1 := tdiv_nat g1 D1 t1 (by rw [← h1, ← hg1, ← hD1]; rfl)
        have q2 := tdiv_nat g2 D2 t2 (by rw [← h2, ← hg2, ← hD2]; rfl)
        obtain ⟨q1a, q1b⟩ := q1
        obtain ⟨q2a, q2b⟩ := q2
        have f1 : (dn : Int) * ((dn : Int) + 1) = (D1 : Int) := by rw [← hD1]; exact (Int.natCast_mul _ _).symm
        obtain ⟨u1, hu1⟩ : ∃ u1 : Int, (dn : Int) + 1 = u1 := ⟨_, rfl⟩
        rw [hu1] at f1
        have f2 : ((dn + 2 : Nat) : Int) * ((dn + 2 + 1 : Nat) : Int) = (D2 : Int) := by rw [← hD2]; exact (Int.natCast_mul _ _).symm
        obtain ⟨u2, hu2⟩ : ∃ u2 : Int, (dn : Int) + 2 = u2 := ⟨_, rfl⟩
        obtain ⟨u3, hu3⟩ : ∃ u3 : Int, (dn : Int) + 3 = u3 := ⟨_, rfl⟩
        rw [show ((dn + 2 : Nat) : Int) = u2 by omega, show ((dn + 2 + 1 : Nat) : Int) = u3 by omega] at f2
        obtain ⟨u4, hu4⟩ : ∃ u4 : Nat, dn + 4 = u4 := ⟨_, rfl⟩
        have hu5 : (dn : Int) + 4 = (u4 : Int) := by omega
        have w1 : IntKind.i64.wrap u1 = u1 := IntWalk.i64_in _ (by omega)
        have w2 : IntKind.i64.wrap u2 = u2 := IntWalk.i64_in _ (by omega)
        have w3 : IntKind.i64.wrap u3 = u3 := IntWalk.i64_in _ (by omega)
        have w4 : IntKind.i64.wrap (u4 : Int) = (u4 : Int) := IntWalk.i64_in _ (by omega)
        have w5 : IntKind.i64.wrap (D1 : Int) = (D1 : Int) := IntWalk.i64_in _ (by omega)
        have w6 : IntKind.i64.wrap (D2 : Int) = (D2 : Int) := IntWalk.i64_in _ (by omega)
        have w7 : IntKind.i64.wrap (t1 : Int) = (t1 : Int) := IntWalk.i64_in _ (by omega)
        have w8 : IntKind.i64.wrap (t2 : Int) = (t2 : Int) := IntWalk.i64_in _ (by omega)
        obtain ⟨m1, hm1⟩ : ∃ m1 : Int, sm + (t : Int) = m1 := ⟨_, rfl⟩
        obtain ⟨m2, hm2⟩ : ∃ m2 : Int, m1 - (t1 : Int) = m2 := ⟨_, rfl⟩
        have w9 : IntKind.i64.wrap m1 = m1 := IntWalk.i64_in _ (by omega)
        have w10 : IntKind.i64.wrap m2 = m2 := IntWalk.i64_in _ (by omega)
        have z1 : ((D1 : Int) == 0) = false := beq_eq_false_iff_ne.2 (by omega)
        have z2 : ((D2 : Int) == 0) = false := beq_eq_false_iff_ne.2 (by omega)
        have z3 : (D1 : Int) ≠ 0 := by omega
        have z4 : (D2 : Int) ≠ 0 := by omega
        have g0 : (0 : Int) < (t : Int) := by omega
        have g0' : 0 < t := by omega
        have HN : Hid (QkI SQ X V t2 u4 m2) := Lib.hid (by rw [← hu4, ← hm2, ← hm1]; exact hI2)
        have HL := Lib.hid (show t2 < t by omega)
        clear hI hI2 l1 l2 ldn hst hs0 hd1 hB2 hst2 hs02 hD1b hD2b hg1 hg2 h1 h2 hD1 hD2 hu4
        go_wp2_with (go_at_call 287; first | (with_reducible refine (H1.out _).mono ?_; rintro e w' ⟨rfl, rfl⟩) | (with_reducible refine (H2.out _).mono ?_; rintro e w' ⟨rfl, rfl⟩))
        go_roundw
        case rel => exact ⟨t2, u4, m2, dd, rfl, rfl, rfl, rfl, HN.out⟩
        case measure => have := HL.out; simp [intOf]; omega
  · obtain ⟨V, hV⟩ : ∃ V, altS h31 SQ 64 (if true = true then h31 * h31 else X) (if true = true then 1 else 2) = V := ⟨_, rfl⟩
    rw [hV]
    rw [if_pos rfl, if_pos rfl] at hV
    have HI : Hid (QkI SQ 4611686018427387904 V 4611686018427387904 1 0) := Lib.hid ⟨⟨32, by decide, by decide, by decide, by rw [Int.zero_add]; exact hV⟩, by decide, by decide, by decide⟩
    have HB : Hid ((4611686018427387904 : Nat) ≤ 4611686018427387904) := Lib.hid (Nat.le_refl _)
    clear hV
    go_enter Tryz.func273, Tryz.ntmps273
    go_wp2_with (go_at_call 287; refine (HX.out _).mono ?_; rintro e w' ⟨rfl, hw⟩; rw [hw]; clear hw)
    go_loopw [7, 8, 9] (fun v7 v8 v9 wr => ∃ (t dn : Nat) (sm : Int) (dd : Ext), v7 = .int .i64 (t : Int) ∧ v8 = .int .i64 (dn : Int) ∧ v9 = .int .i64 sm ∧ wr = lay w [.inr dd] ∧ QkI SQ 4611686018427387904 V t dn sm) (fun v7 _ _ _ => (intOf v7).toNat)
    case atStart => exact ⟨4611686018427387904, 1, 0, noExt _, rfl, rfl, rfl, (bw_noExt _).symm, HI.out⟩
    case round =>
      obtain ⟨t, dn, sm, dd, rfl, rfl, rfl, rfl, hI⟩ := hrel
      by_cases ht0 : t = 0
      · subst ht0
        have hd := hI.done
        subst hd
        clear hI
        go_wp2_with fail
        go_ret
        exact ⟨rfl, lay_ex _ _⟩
      · obtain ⟨t1, h1⟩ : ∃ t1, nexT h31 SQ t dn = t1 := ⟨_, rfl⟩
        obtain ⟨t2, h2⟩ : ∃ t2, nexT h31 SQ t1 (dn + 2) = t2 := ⟨_, rfl⟩
        obtain ⟨hI2, l1, l2, ldn⟩ := hI.step hsq.out.1 (by omega) h1 h2
        have hst := hI.st
        have hs0 := hI.s0
        have hd1 := hI.d1
        have hB2 := HB.out
        have hst2 := hI2.st
        have hs02 := hI2.s0
        obtain ⟨D1, hD1⟩ : ∃ D1, dn * (dn + 1) = D1 := ⟨_, rfl⟩
        obtain ⟨D2, hD2⟩ : ∃ D2, (dn + 2) * (dn + 2 + 1) = D2 := ⟨_, rfl⟩
        have hD1b : 1 ≤ D1 ∧ D1 ≤ 40000 := by
          rw [← hD1]
          exact ⟨Nat.le_trans (by decide) (Nat.mul_le_mul hd1 (show 1 ≤ dn + 1 by omega)), Nat.le_trans (Nat.mul_le_mul (show dn ≤ 200 by omega) (show dn + 1 ≤ 200 by omega)) (by decide)⟩
        have hD2b : 1 ≤ D2 ∧ D2 ≤ 40000 := by
          rw [← hD2]
          exact ⟨Nat.le_trans (by decide) (Nat.mul_le_mul (show 1 ≤ dn + 2 by omega) (show 1 ≤ dn + 2 + 1 by omega)), Nat.le_trans (Nat.mul_le_mul (show dn + 2 ≤ 200 by omega) (show dn + 2 + 1 ≤ 200 by omega)) (by decide)⟩
        obtain ⟨g1, hg1⟩ : ∃ g1, higN h31 t SQ = g1 := ⟨_, rfl⟩
        obtain ⟨g2, hg2⟩ : ∃ g2, higN h31 t1 SQ = g2 := ⟨_, rfl⟩
        have H1 := Lib.hid (fun W => r6_high t SQ W (by omega) hsq.out.2)
        have H2 := Lib.hid (fun W => r6_high t1 SQ W (by omega) hsq.out.2)
        rw [hg1] at H1
        rw [hg2] at H2
        have q1 := tdiv_nat g1 D1 t1 (by rw [← h1, ← hg1, ← hD1]; rfl)
        have q2 := tdiv_nat g2 D2 t2 (by rw [← h2, ← hg2, ← hD2]; rfl)
        obtain ⟨q1a, q1b⟩ := q1
        obtain ⟨q2a, q2b⟩ := q2
        have f1 : (dn : Int) * ((dn : Int) + 1) = (D1 : Int) := by rw [← hD1]; exact (Int.natCast_mul _ _).symm
        obtain ⟨u1, hu1⟩ : ∃ u1 : Int, (dn : Int) + 1 = u1 := ⟨_, rfl⟩
        rw [hu1] at f1
        have f2 : ((dn + 2 : Nat) : Int) * ((dn + 2 + 1 : Nat) : Int) = (D2 : Int) := by rw [← hD2]; exact (Int.natCast_mul _ _).symm
        obtain ⟨u2, hu2⟩ : ∃ u2 : Int, (dn : Int) + 2 = u2 := ⟨_, rfl⟩
        obtain ⟨u3, hu3⟩ : ∃ u3 : Int, (dn : Int) + 3 = u3 := ⟨_, rfl⟩
        rw [show ((dn + 2 : Nat) : Int) = u2 by omega, show ((dn + 2 + 1 : Nat) : Int) = u3 by omega] at f2
        obtain ⟨u4, hu4⟩ : ∃ u4 : Nat, dn + 4 = u4 := ⟨_, rfl⟩
        have hu5 : (dn : Int) + 4 = (u4 : Int) := by omega
        have w1 : IntKind.i64.wrap u1 = u1 := IntWalk.i64_in _ (by omega)
        have w2 : IntKind.i64.wrap u2 = u2 := IntWalk.i64_in _ (by omega)
        have w3 : IntKind.i64.wrap u3 = u3 := IntWalk.i64_in _ (by omega)
        have w4 : IntKind.i64.wrap (u4 : Int) = (u4 : Int) := IntWalk.i64_in _ (by omega)
        have w5 : IntKind.i64.wrap (D1 : Int) = (D1 : Int) := IntWalk.i64_in _ (by omega)
        have w6 : IntKind.i64.wrap (D2 : Int) = (D2 : Int) := IntWalk.i64_in _ (by omega)
        have w7 : IntKind.i64.wrap (t1 : Int) = (t1 : Int) := IntWalk.i64_in _ (by omega)
        have w8 : IntKind.i64.wrap (t2 : Int) = (t2 : Int) := IntWalk.i64_in _ (by omega)
        obtain ⟨m1, hm1⟩ : ∃ m1 : Int, sm + (t : Int) = m1 := ⟨_, rfl⟩
        obtain ⟨m2, hm2⟩ : ∃ m2 : Int, m1 - (t1 : Int) = m2 := ⟨_, rfl⟩
        have w9 : IntKind.i64.wrap m1 = m1 := IntWalk.i64_in _ (by omega)
        have w10 : IntKind.i64.wrap m2 = m2 := IntWalk.i64_in _ (by omega)
        have z1 : ((D1 : Int) == 0) = false := beq_eq_false_iff_ne.2 (by omega)
        have z2 : ((D2 : Int) == 0) = false := beq_eq_false_iff_ne.2 (by omega)
        have z3 : (D1 : Int) ≠ 0 := by omega
        have z4 : (D2 : Int) ≠ 0 := by omega
        have g0 : (0 : Int) < (t : Int) := by omega
        have g0' : 0 < t := by omega
        have HN : Hid (QkI SQ 4611686018427387904 V t2 u4 m2) := Lib.hid (by rw [← hu4, ← hm2, ← hm1]; exact hI2)
        have HL := Lib.hid (show t2 < t by omega)
        clear hI hI2 l1 l2 ldn hst hs0 hd1 hB2 hst2 hs02 hD1b hD2b hg1 hg2 h1 h2 hD1 hD2 hu4
        go_wp2_with (go_at_call 287; first | (with_reducible refine (H1.out _).mono ?_; rintro e w' ⟨rfl, rfl⟩) | (with_reducible refine (H2.out _).mono ?_; rintro e w' ⟨rfl, rfl⟩))
        go_roundw
        case rel => exact ⟨t2, u4, m2, dd, rfl, rfl, rfl, rfl, HN.out⟩
        case measure => have := HL.out; simp [intOf]; omega
theorem qkV_sin {r : Nat} : qkV r false = altS h31 (higN h31 (quiX r) (quiX r)) 64 (quiX r) 2 := by
  unfold qkV
  rw [if_neg (by decide), if_neg (by decide)]
theorem qkV_cos {r : Nat} : qkV r true = altS h31 (higN h31 (quiX r) (quiX r)) 64 (h31 * h31) 1 := by
  unfold qkV
  rw [if_pos rfl, if_pos rfl]
attribute [irreducible] qkV
end Go.Proofs.YthjfadfebhjhbaaGreat
/- The reference's sines and cosines over arcs. -/
namespace Go.Proofs.YthjfadfebhjhbaaGreat
open Go.RowKit

def qckV (n : Int) : Int :=
  if 2 ≤ n % 21600000 / 5400000 then -(if 2700000 < n % 21600000 % 5400000 then qkV (5400000 - n % 21600000 % 5400000).toNat (!decide (n % 21600000 / 5400000 % 2 = 1)) else qkV (n % 21600000 % 5400000).toNat (decide (n % 21600000 / 5400000 % 2 = 1)))
  else (if 2700000 < n % 21600000 % 5400000 then qkV (5400000 - n % 21600000 % 5400000).toNat (!decide (n % 21600000 / 5400000 % 2 = 1)) else qkV (n % 21600000 % 5400000).toNat (decide (n % 21600000 / 5400000 % 2 = 1)))
theorem qk_sin {r : Nat} (h1 : 1 ≤ r) (h2 : r ≤ 2700000) (h3 : r ≠ 1800000) : (octS r : Int) * 4294967296 + 700 ≤ qkV r false ∧ qkV r false + 700 ≤ ((octS r : Int) + 1) * 4294967296 := by
  have h := quick_sin h2
  rw [← qkV_sin] at h
  exact quick_cell h (octS_bt h1 h2 h3)
theorem qk_cos {r : Nat} (h1 : 1 ≤ r) (h2 : r ≤ 2700000) : (octC r : Int) * 4294967296 + 700 ≤ qkV r true ∧ qkV r true + 700 ≤ ((octC r : Int) + 1) * 4294967296 := by
  have h := quick_cos h2
  rw [← qkV_cos] at h
  exact quick_cell h (octC_bt h1 h2)
theorem exaQ_no {f : Nat} (h : exaQ f = false) : f ≠ 0 ∧ f ≠ 1800000 ∧ f ≠ 5400000 := by
  unfold exaQ at h
  simp only [Bool.or_eq_false_iff, beq_eq_false_iff_ne] at h
  omega
theorem bb_no {n : Int} (h : exaQ (foldT n) = false) : bHi n = bLo n + 1 ∧ bLo n = if souB n then -((sinQ (foldT n) : Int) + 1) else (sinQ (foldT n) : Int) := by
  rw [bLo_at, bHi_at]
  unfold hiQ oneQ
  rw [h]
  cases souB n <;> simp <;> omega
theorem bb_ex {n : Int} (h : exaQ (foldT n) = true) : bHi n = bLo n ∧ bLo n = if souB n then -(sinQ (foldT n) : Int) else (sinQ (foldT n) : Int) := by
  rw [bLo_at, bHi_at]
  unfold hiQ oneQ
  rw [h]
  cases souB n <;> simp
theorem qck_cell {n : Int} (h : exaQ (foldT n) = false) : bLo n * 4294967296 + 700 ≤ qckV n ∧ qckV n + 700 ≤ (bLo n + 1) * 4294967296 := by
  obtain ⟨h0, h1, h2⟩ := exaQ_no h
  rw [(bb_no h).2]
  clear h
  have hf : foldT n = if 10800000 < n % 21600000 then (if 16200000 < n % 21600000 then (21600000 - n % 21600000).toNat else (n % 21600000 - 10800000).toNat) else (if 5400000 < n % 21600000 then (10800000 - n % 21600000).toNat else (n % 21600000).toNat) := rfl
  have hs : souB n = decide (10800000 < n % 21600000) := rfl
  unfold qckV
  obtain ⟨m, hm⟩ : ∃ m, n % 21600000 = m := ⟨_, rfl⟩
  have hm2 : 0 ≤ m ∧ m < 21600000 := by omega
  rw [hm] at hf hs ⊢
  generalize foldT n = f at *
  rw [hs]
  clear hs hm
  have key : ∀ (r : Nat) (c : Bool), r ≤ 2700000 → 1 ≤ r → ((c = false ∧ f = r) ∨ (c = true ∧ f = 5400000 - r)) → (sinQ f : Int) * 4294967296 + 700 ≤ qkV r c ∧ qkV r c + 700 ≤ ((sinQ f : Int) + 1) * 4294967296 := by
    intro r c hr hr1 hc
    rcases hc with ⟨rfl, rfl⟩ | ⟨rfl, e⟩
    · rw [sinQ_s h0 h1 hr]
      exact qk_sin hr1 hr h1
    · rcases Nat.lt_or_ge r 2700000 with hlt | hge
      · rw [sinQ_c (by omega) (by omega), show 5400000 - f = r by omega]
        exact qk_cos hr1 hr
      · obtain rfl : r = 2700000 := by omega
        rw [e, show (5400000 - 2700000 : Nat) = 2700000 from rfl, sinQ_s (by decide) (by decide) (by decide), oct_mid]
        exact qk_cos hr1 hr
  obtain ⟨q, hq⟩ : ∃ q, m / 5400000 = q := ⟨_, rfl⟩
  obtain ⟨r, hr⟩ : ∃ r, m % 5400000 = r := ⟨_, rfl⟩
  rw [hq, hr]
  have hqr : m = 5400000 * q + r ∧ 0 ≤ r ∧ r < 5400000 := by omega
  obtain rfl | rfl | rfl | rfl : q = 0 ∨ q = 1 ∨ q = 2 ∨ q = 3 := by omega
  · rw [if_neg (show ¬ (2 : Int) ≤ 0 by decide), show decide ((0 : Int) % 2 = 1) = false by decide, decide_eq_false (show ¬ 10800000 < m by omega)]
    rw [if_neg (show ¬ 10800000 < m by omega), if_neg (show ¬ 5400000 < m by omega)] at hf
    simp only [Bool.false_eq_true, if_false]
    split
    · exact key _ _ (by omega) (by omega) (.inr ⟨rfl, by omega⟩)
    · exact key _ _ (by omega) (by omega) (.inl ⟨rfl, by omega⟩)
  · rw [if_neg (show ¬ (2 : Int) ≤ 1 by decide), show decide ((1 : Int) % 2 = 1) = true by decide, decide_eq_false (show ¬ 10800000 < m by omega)]
    rw [if_neg (show ¬ 10800000 < m by omega)] at hf
    simp only [Bool.false_eq_true, if_false]
    split
    · rw [if_pos (show 5400000 < m by omega)] at hf
      exact key _ _ (by omega) (by omega) (.inl ⟨rfl, by omega⟩)
    · have : r ≠ 0 := by intro e; rw [if_neg (show ¬ 5400000 < m by omega)] at hf; omega
      rw [if_pos (show 5400000 < m by omega)] at hf
      exact key _ _ (by omega) (by omega) (.inr ⟨rfl, by omega⟩)
  · have hr0 : r ≠ 0 := by
      intro e
      rw [if_neg (show ¬ 10800000 < m by omega), if_pos (show 5400000 < m by omega)] at hf
      omega
    rw [if_pos (show (2 : Int) ≤ 2 by decide), show decide ((2 : Int) % 2 = 1) = false by decide, decide_eq_true (show 10800000 < m by omega)]
    rw [if_pos (show 10800000 < m by omega), if_neg (show ¬ 16200000 < m by omega)] at hf
    simp only [if_true]
    split
    · have := key (5400000 - r).toNat (!false) (by omega) (by omega) (.inr ⟨rfl, by omega⟩)
      omega
    · have := key r.toNat false (by omega) (by omega) (.inl ⟨rfl, by omega⟩)
      omega
  · rw [if_pos (show (2 : Int) ≤ 3 by decide), show decide ((3 : Int) % 2 = 1) = true by decide, decide_eq_true (show 10800000 < m by omega)]
    rw [if_pos (show 10800000 < m by omega)] at hf
    have hr0 : r ≠ 0 := by
      intro e
      rw [if_neg (show ¬ 16200000 < m by omega)] at hf
      omega
    rw [if_pos (show 16200000 < m by omega)] at hf
    simp only [if_true]
    split
    · have := key (5400000 - r).toNat (!true) (by omega) (by omega) (.inl ⟨rfl, by omega⟩)
      omega
    · have := key r.toNat true (by omega) (by omega) (.inr ⟨rfl, by omega⟩)
      omega
theorem qkV_bd {r : Nat} {c : Bool} (h : r ≤ 2700000) : -4611686018427388904 ≤ qkV r c ∧ qkV r c ≤ 4611686018427388904 := by
  have key : ∀ {v : Int} {V : Rat}, Nr ((v : Rat) / m62) V (210 / m62) → 0 ≤ V → V ≤ 1 → -4611686018427388904 ≤ v ∧ v ≤ 4611686018427388904 := by
    intro v V hn h0 h1
    obtain ⟨a, b⟩ := hn
    unfold m62 at a b
    have c1 : (v : Rat) ≤ ((4611686018427388904 : Int) : Rat) := by
      rw [show ((4611686018427388904 : Int) : Rat) = 4611686018427388904 from rfl]
      grind
    have c2 : ((-4611686018427388904 : Int) : Rat) ≤ (v : Rat) := by
      rw [show ((-4611686018427388904 : Int) : Rat) = -4611686018427388904 from rfl]
      grind
    exact ⟨Rat.intCast_le_intCast.1 c2, Rat.intCast_le_intCast.1 c1⟩
  have hx := xi_in (n := r) (by omega)
  cases c
  · have hs := sin_in (n := r) (by omega)
    have h1 : Nr ((qkV r false : Rat) / m62) (sinT r) (210 / m62) := by rw [qkV_sin]; exact quick_sin h
    exact key h1 hs.1 (Rat.le_trans hs.2 (Rat.le_trans hx.2 (by decide +kernel)))
  · have hc := cos_in (n := r) (by omega)
    have h1 : Nr ((qkV r true : Rat) / m62) (cosT r) (210 / m62) := by rw [qkV_cos]; exact quick_cos h
    exact key h1 (Rat.le_trans (by decide +kernel) hc.1) hc.2
theorem ex_val {n : Int} {k : Nat} (hk : k < 12) (h : n % 21600000 = 1800000 * (k : Int)) :
    (k % 3 = 0 → exaQ (foldT n) = true ∧ bLo n = (if k = 3 then 1073741824 else if k = 9 then -1073741824 else 0)) ∧
    (k % 6 = 2 ∨ k % 6 = 4 → exaQ (foldT n) = false) ∧
    (k % 6 = 1 ∨ k % 6 = 5 → exaQ (foldT n) = true ∧ bLo n = (if k < 6 then 536870912 else -536870912)) := by
  have hf : foldT n = if 10800000 < n % 21600000 then (if 16200000 < n % 21600000 then (21600000 - n % 21600000).toNat else (n % 21600000 - 10800000).toNat) else (if 5400000 < n % 21600000 then (10800000 - n % 21600000).toNat else (n % 21600000).toNat) := rfl
  have hs : souB n = decide (10800000 < n % 21600000) := rfl
  rw [h] at hf hs
  have tr : ∀ f v, foldT n = f → exaQ f = true → ((sinQ f : Int) = v) → exaQ (foldT n) = true ∧ bLo n = if souB n then -v else v := by
    intro f v e1 e2 e3
    have e4 : exaQ (foldT n) = true := by rw [e1]; exact e2
    refine ⟨e4, ?_⟩
    rw [(bb_ex e4).2, e1, e3]
  have s0 : ((sinQ 0 : Nat) : Int) = 0 := by rw [sinQ_0]; rfl
  have s1 : ((sinQ 1800000 : Nat) : Int) = 536870912 := by rw [sinQ_h]; rfl
  have s2 : ((sinQ 5400000 : Nat) : Int) = 1073741824 := by rw [sinQ_q]; rfl
  obtain rfl | rfl | rfl | rfl | rfl | rfl | rfl | rfl | rfl | rfl | rfl | rfl : k = 0 ∨ k = 1 ∨ k = 2 ∨ k = 3 ∨ k = 4 ∨ k = 5 ∨ k = 6 ∨ k = 7 ∨ k = 8 ∨ k = 9 ∨ k = 10 ∨ k = 11 := by omega
  all_goals
    refine ⟨fun h1 => ?_, fun h1 => ?_, fun h1 => ?_⟩
    · first
        | (exfalso; revert h1; decide)
        | (have := tr 0 0 hf (by decide) s0; rw [hs] at this; exact this)
        | (have := tr 5400000 1073741824 hf (by decide) s2; rw [hs] at this; exact this)
    · first
        | (exfalso; revert h1; decide)
        | (rw [hf]; decide)
    · first
        | (exfalso; revert h1; decide)
        | (have := tr 1800000 536870912 hf (by decide) s1; rw [hs] at this; exact this)
theorem ex_not {n : Int} (h : n % 21600000 % 1800000 ≠ 0) : exaQ (foldT n) = false := by
  have hf : foldT n = if 10800000 < n % 21600000 then (if 16200000 < n % 21600000 then (21600000 - n % 21600000).toNat else (n % 21600000 - 10800000).toNat) else (if 5400000 < n % 21600000 then (10800000 - n % 21600000).toNat else (n % 21600000).toNat) := rfl
  generalize foldT n = f at *
  unfold exaQ
  simp only [Bool.or_eq_false_iff, beq_eq_false_iff_ne]
  split at hf <;> split at hf <;> omega
end Go.Proofs.YthjfadfebhjhbaaGreat
/- The reference's sine: exact values. -/
namespace Go.Proofs.YthjfadfebhjhbaaGreat
open Go.RowKit

theorem mod12 {n : Int} (h : n % 21600000 % 1800000 = 0) : ∃ k : Nat, k < 12 ∧ n % 21600000 = 1800000 * (k : Int) :=
  ⟨(n % 21600000 / 1800000).toNat, by omega, by omega⟩
set_option maxHeartbeats 4000000 in
set_option maxRecDepth 100000 in
theorem r6_Exact (n : Int) (w : World) :
    Calls Tryz.prog 246 #[.int .i64 n] w fun e w' => e = .returned (.tuple #[.int .i64 (if exaQ (foldT n) then bLo n else 0), .bool (exaQ (foldT n))]) ∧ ∃ d, w' = bw w d := by
  refine lay_start ?_
  have hc := tmod_turn n
  obtain ⟨t, ht⟩ : ∃ t, n.tmod 21600000 = t := ⟨_, rfl⟩
  rw [ht] at hc
  have kt : IntKind.i64.wrap t = t := IntWalk.i64_in _ (by omega)
  by_cases h0 : n % 21600000 % 1800000 = 0
  · obtain ⟨k, hk, hm⟩ := mod12 h0
    obtain ⟨v1, v2, v3⟩ := ex_val hk hm
    have hc2 : t = 1800000 * (k : Int) ∨ t = 1800000 * (k : Int) - 21600000 := by omega
    clear h0 hm hc
    generalize exaQ (foldT n) = x at *
    generalize bLo n = b at *
    obtain rfl | rfl | rfl | rfl | rfl | rfl | rfl | rfl | rfl | rfl | rfl | rfl : k = 0 ∨ k = 1 ∨ k = 2 ∨ k = 3 ∨ k = 4 ∨ k = 5 ∨ k = 6 ∨ k = 7 ∨ k = 8 ∨ k = 9 ∨ k = 10 ∨ k = 11 := by omega
    all_goals
      first
        | (obtain ⟨e1, e2⟩ := v1 rfl; simp only [Nat.reduceEqDiff, if_true, if_false] at e2; subst e1; subst e2)
        | (have e1 := v2 (.inl rfl); subst e1)
        | (have e1 := v2 (.inr rfl); subst e1)
        | (obtain ⟨e1, e2⟩ := v3 (.inl rfl); simp only [Nat.reduceLT, if_true, if_false] at e2; subst e1; subst e2)
        | (obtain ⟨e1, e2⟩ := v3 (.inr rfl); simp only [Nat.reduceLT, if_true, if_false] at e2; subst e1; subst e2)
      clear v1 v2 v3 hk
      simp at hc2
      rcases hc2 with rfl | rfl
      all_goals
        go_enter Tryz.func246, Tryz.ntmps246
        go_wp2_with fail
        go_ret2
        exact ⟨rfl, lay_ex _ _⟩
  · have hx := ex_not h0
    rw [hx]
    obtain ⟨m, hm⟩ : ∃ m, n % 21600000 = m := ⟨_, rfl⟩
    rw [hm] at hc h0
    have hm2 : 0 ≤ m ∧ m < 21600000 := by omega
    have e1 : m.tmod 1800000 = m % 1800000 := Int.tmod_eq_emod_of_nonneg hm2.1
    obtain ⟨u, hu⟩ : ∃ u, m % 1800000 = u := ⟨_, rfl⟩
    rw [hu] at e1 h0
    have ku : IntKind.i64.wrap u = u := IntWalk.i64_in _ (by omega)
    have z1 : (u != 0) = true := bne_iff_ne.2 h0
    have z2 : (u == 0) = false := beq_eq_false_iff_ne.2 h0
    rcases hc with hc | ⟨hc, hc2⟩
    · subst hc
      have h1 : ¬ t < 0 := by omega
      clear hx hm2 ku
      go_enter Tryz.func246, Tryz.ntmps246
      go_wp2_with fail
      go_ret2
      exact ⟨rfl, lay_ex _ _⟩
    · have km : IntKind.i64.wrap m = m := IntWalk.i64_in _ (by omega)
      clear hx hm2 ku
      go_enter Tryz.func246, Tryz.ntmps246
      go_wp2_with fail
      go_ret2
      exact ⟨rfl, lay_ex _ _⟩
end Go.Proofs.YthjfadfebhjhbaaGreat

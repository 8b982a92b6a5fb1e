/- Contracts and plain laws, several texts in one: Agr; Stp; Lst; Prt; TgP; TgI -/
import Derived.Test.YthjfadfebhjhbaaGreatProg
import Derived.WalkKit
import Derived.WalkSpells
import Derived.WalkLawsBesides
import Derived.Lib.Hide
import Derived.BigQuiet
import GoSem.Core.Next
import Derived.Test.YthjfadfebhjhbaaGreatPAA
import Derived.Test.YthjfadfebhjhbaaGreatPAB
import Derived.Test.YthjfadfebhjhbaaGreatPAE
import Derived.Test.YthjfadfebhjhbaaGreatPAK
import Derived.Test.YthjfadfebhjhbaaGreatPAY
/- angle.Agree. -/
namespace Go.Proofs.YthjfadfebhjhbaaGreat
open Go.RowKit

end Go.Proofs.YthjfadfebhjhbaaGreat
/- Plain law: a star goes with Aries, and is where it was after a sidereal day. No program in sight. -/
namespace Go.Proofs.YthjfadfebhjhbaaGreat

end Go.Proofs.YthjfadfebhjhbaaGreat
/- The walk of the law AlmanacStars. -/
namespace Go.Proofs.YthjfadfebhjhbaaGreat
open Go.RowKit Go.Shelf

def rgtB (a b c d e f g h : Int) : Prop := validB a b = true ∧ turnLo a b = a ∧ turnHi a b = b ∧ validB c d = true ∧ validB e f = true ∧ validB g h = true
theorem turn_again {x y : Int} (h : x ≤ y) : turnLo (turnLo x y) (turnHi x y) = turnLo x y ∧ turnHi (turnLo x y) (turnHi x y) = turnHi x y := by
  unfold turnLo turnHi
  split
  · constructor <;> rfl
  · constructor
    · rw [if_neg (by omega)]; omega
    · rw [if_neg (by omega)]; omega
theorem dc_valid {n : Int} (h0 : -54000 ≤ n) (h1 : n ≤ 54000) : validB (dcL n) (dcH n) = true := by
  unfold dcL dcH
  rw [mx_eq, mn_eq, validB_iff]; omega
theorem star_right {a b sha dec : Int} (h : a ≤ b) (d0 : -54000 ≤ dec) (d1 : dec ≤ 54000) : rgtB (sgL a b sha) (sgH a b sha) (dcL dec) (dcH dec) 0 0 0 0 := by
  have b1 := ag_bd h
  have hx : agL a b + (100 * sha - 50) ≤ agH a b + (100 * sha + 50) := by omega
  exact ⟨turn_valid hx, (turn_again hx).1, (turn_again hx).2, dc_valid d0 d1, by decide, by decide⟩
end Go.Proofs.YthjfadfebhjhbaaGreat
/- A time has the places of its instants: the plain law. -/
namespace Go.Proofs.YthjfadfebhjhbaaGreat
open Go.RowKit Go.Shelf

/-- Each direction of the first arc is one of the second. -/
def Dia (x0 y0 x1 y1 : Int) : Prop := 21600000 ≤ y1 - x1 ∨ (y0 - x0 < 21600000 ∧ (x0 - x1) % 21600000 + (y0 - x0) ≤ y1 - x1)
theorem Dia.sub {x0 y0 x1 y1 : Int} (h1 : x1 ≤ x0) (_ : x0 ≤ y0) (h3 : y0 ≤ y1) : Dia x0 y0 x1 y1 := by unfold Dia; omega
theorem Dia.turnL {x0 y0 x1 y1 : Int} (h : Dia x0 y0 x1 y1) : Dia (turnLo x0 y0) (turnHi x0 y0) x1 y1 := by
  unfold Dia at *
  unfold turnLo turnHi
  rcases h with h | ⟨h1, h2⟩
  · exact .inl h
  · right
    rw [if_neg (by omega), if_neg (by omega)]
    omega
theorem Dia.turnR {x0 y0 x1 y1 : Int} (h : Dia x0 y0 x1 y1) : Dia x0 y0 (turnLo x1 y1) (turnHi x1 y1) := by
  unfold Dia at *
  unfold turnLo turnHi
  by_cases k : 21600000 ≤ y1 - x1
  · rw [if_pos k, if_pos k]; omega
  · rw [if_neg k, if_neg k]; omega
theorem Dia.add {x0 y0 x1 y1 c d : Int} (h : Dia x0 y0 x1 y1) (hc : c ≤ d) : Dia (x0 + c) (y0 + d) (x1 + c) (y1 + d) := by
  unfold Dia at *
  rw [show x0 + c - (x1 + c) = x0 - x1 by omega]
  omega
theorem Dia.monoR {x0 y0 x1 y1 x2 y2 : Int} (h : Dia x0 y0 x1 y1) (h1 : x2 ≤ x1) (h2 : y1 ≤ y2) : Dia x0 y0 x2 y2 := by unfold Dia at *; omega
theorem Dia.shiftR {x0 y0 x1 y1 x2 y2 : Int} (h : Dia x0 y0 x1 y1) (h1 : (x2 - x1) % 21600000 = 0) (h2 : y2 - x2 = y1 - x1) : Dia x0 y0 x2 y2 := by
  unfold Dia at *
  have : (x0 - x2) % 21600000 = (x0 - x1) % 21600000 := by omega
  rw [this]; omega
theorem sgn_mod (n : Int) : (sgnI n - n) % 21600000 = 0 := by unfold sgnI; split <;> omega
theorem Dia.joinL {x0 y0 a b c d : Int} (h : Dia x0 y0 a b) : Dia x0 y0 (turnLo (hulL a c) (hulH a b c d)) (turnHi (hulL a c) (hulH a b c d)) := by
  refine Dia.turnR (h.monoR ?_ ?_)
  · unfold hulL; rw [mn_eq]; omega
  · unfold hulH; rw [mx_eq]; omega
theorem Dia.joinR {x0 y0 a b c d : Int} (h : Dia x0 y0 c d) : Dia x0 y0 (turnLo (hulL a c) (hulH a b c d)) (turnHi (hulL a c) (hulH a b c d)) := by
  have hs := sgn_mod (c - a)
  refine Dia.turnR ((h.shiftR (x2 := a + sgnI (c - a)) (y2 := a + sgnI (c - a) + d - c) ?_ ?_).monoR ?_ ?_)
  · rw [show a + sgnI (c - a) - c = sgnI (c - a) - (c - a) by omega]; exact hs
  · omega
  · unfold hulL; rw [mn_eq]; omega
  · unfold hulH; rw [mx_eq]; omega
/-- What the law asks of a part's place and the whole's. -/
structure PartOk (x g : GeoV) : Prop where
  gha : Dia x.a x.b g.a g.b
  dec : g.c ≤ x.c ∧ x.d ≤ g.d
  semi : g.e ≤ x.e ∧ x.f ≤ g.f
  par : g.g ≤ x.g ∧ x.h ≤ g.h
theorem ariF_mono {a b : Int} (h : a ≤ b) : ariF a ≤ ariF b := by
  have h1 : ariV a ≤ ariV b := by unfold ariV; omega
  have := Int.ediv_le_ediv (c := 86400000000000) (by decide) h1
  unfold ariF; omega
theorem ceil_mono {K V W : Int} (hK : 0 < K) (h : V ≤ W) : (if 0 < V % K then V / K + 1 else V / K) ≤ (if 0 < W % K then W / K + 1 else W / K) := by
  have h1 := Int.ediv_le_ediv hK h
  have e1 := Int.emod_add_mul_ediv V K
  have e2 := Int.emod_add_mul_ediv W K
  by_cases e : V / K = W / K
  · rw [e] at e1 ⊢
    split <;> split <;> omega
  · split <;> split <;> omega
theorem ariU_mono {a b : Int} (h : a ≤ b) : ariU a ≤ ariU b := by
  have h1 : ariV a ≤ ariV b := by unfold ariV; omega
  have := ceil_mono (K := 86400000000000) (by decide) h1
  unfold ariU ariF ariR
  split at this <;> split at this <;> (rename_i p q; simp only [p, q, if_true, if_false]; omega)
theorem ag_part {a b n : Int} (h1 : a ≤ n) (h2 : n ≤ b) : Dia (agL n n) (agH n n) (agL a b) (agH a b) :=
  (Dia.sub (ariF_mono h1) (ariF_le (Int.le_refl n)) (ariU_mono h2)).turnL.turnR
theorem gha_part {t : TrkV} (ht : trkB t = true) {lo hi f u : Int} (h1 : lo ≤ f) (h2 : f ≤ u) (h3 : u ≤ hi) : PartOk (spanV t f u) (spanV t lo hi) := by
  have r0 := (gd_of ht).r0
  have g := ovr_sub (arcA (ang t.g)) (r := t.r) r0 h1 h2 h3
  have d := ovr_sub (arcA (dcl t.d)) (r := t.r) r0 h1 h2 h3
  change (ghaO t lo hi).1 ≤ (ghaO t f u).1 ∧ (ghaO t f u).2 ≤ (ghaO t lo hi).2 at g
  change (decO t lo hi).1 ≤ (decO t f u).1 ∧ (decO t f u).2 ≤ (decO t lo hi).2 at d
  refine ⟨(Dia.sub g.1 (ghaO_le ht f u) g.2).turnL.turnR, ?_, ⟨Int.le_refl _, Int.le_refl _⟩, ⟨Int.le_refl _, Int.le_refl _⟩⟩
  unfold spanV
  dsimp only
  rw [mx_eq, mx_eq, mn_eq, mn_eq]; omega
theorem PartOk.left {x g h : GeoV} (k : PartOk x g) : PartOk x (joinV g h) := by
  obtain ⟨k1, k2, k3, k4⟩ := k
  refine ⟨k1.joinL, ?_, ?_, ?_⟩ <;> (unfold joinV; dsimp only; rw [mn_eq, mx_eq]; omega)
theorem PartOk.right {x g h : GeoV} (k : PartOk x h) : PartOk x (joinV g h) := by
  obtain ⟨k1, k2, k3, k4⟩ := k
  refine ⟨k1.joinR, ?_, ?_, ?_⟩ <;> (unfold joinV; dsimp only; rw [mn_eq, mx_eq]; omega)
theorem bodyR_part {lp : List PgV} {s : ByteArray} {a b n : Int} (hok : ∀ p ∈ lp, PgOk p) (h1 : a ≤ n) (h2 : n ≤ b) (h3 : b - a < 86400000) (h : (bodyR lp s a b).2 = 0) :
    (bodyR lp s n n).2 = 0 ∧ PartOk (bodyR lp s n n).1 (bodyR lp s a b).1 := by
  cases k1 : trkAt lp s (a / 86400000) with
  | none => rw [bodyR_no k1] at h; cases h
  | some t =>
    have o1 := trkAt_ok hok k1
    by_cases e : a / 86400000 = b / 86400000
    · have en : n / 86400000 = a / 86400000 := by omega
      rw [bodyR_one k1 e, bodyR_one (a := n) (b := n) (by rw [en]; exact k1) rfl, en]
      exact ⟨rfl, gha_part o1 (by omega) (by omega) (by omega)⟩
    · cases k2 : trkAt lp s (b / 86400000) with
      | none => rw [bodyR_no2 k1 e k2] at h; cases h
      | some u =>
        have o2 := trkAt_ok hok k2
        rw [bodyR_two k1 e k2]
        by_cases en : n / 86400000 = a / 86400000
        · rw [bodyR_one (a := n) (b := n) (by rw [en]; exact k1) rfl, en]
          exact ⟨rfl, (gha_part o1 (by omega) (by omega) (by omega)).left⟩
        · have en2 : n / 86400000 = b / 86400000 := by omega
          rw [bodyR_one (a := n) (b := n) (by rw [en2]; exact k2) rfl, en2]
          exact ⟨rfl, (gha_part o2 (by omega) (by omega) (by omega)).right⟩
theorem whR_part {lp : List PgV} {ls : List StarV} {s : ByteArray} {a b n : Int} (hok : ∀ p ∈ lp, PgOk p) (h1 : a ≤ n) (h2 : n ≤ b) (h : (whR lp ls s a b).2 = 0) :
    (whR lp ls s n n).2 = 0 ∧ PartOk (whR lp ls s n n).1 (whR lp ls s a b).1 := by
  cases whW lp ls s a b with
  | bad k => rw [whR_bad k] at h; cases h
  | name t k => rw [whR_name t k] at h; cases h
  | wide t k d => rw [whR_wide t k d] at h; cases h
  | aries t d k =>
    have tn : timB n n = true := by have := timB_iff.1 t; exact timB_iff.2 (by omega)
    rw [whR_aries t d k, whR_aries tn (by omega) k]
    exact ⟨rfl, ag_part h1 h2, ⟨Int.le_refl _, Int.le_refl _⟩, ⟨Int.le_refl _, Int.le_refl _⟩, ⟨Int.le_refl _, Int.le_refl _⟩⟩
  | star i x t d k f g e =>
    have tn : timB n n = true := by have := timB_iff.1 t; exact timB_iff.2 (by omega)
    rw [whR_star t d k f e, whR_star tn (by omega) k f e]
    exact ⟨rfl, ((ag_part h1 h2).add (by omega)).turnL.turnR, ⟨Int.le_refl _, Int.le_refl _⟩, ⟨Int.le_refl _, Int.le_refl _⟩, ⟨Int.le_refl _, Int.le_refl _⟩⟩
  | body t d k f g c =>
    have tn : timB n n = true := by have := timB_iff.1 t; exact timB_iff.2 (by omega)
    rw [whR_body t d k g c] at h ⊢
    rw [whR_body tn (by omega) k g c]
    exact bodyR_part hok h1 h2 d h
theorem valid_00 : validB 0 0 = true := by decide
/-- A place is right. -/
def rgtG (g : GeoV) : Prop := rgtB g.a g.b g.c g.d g.e g.f g.g g.h
theorem sz_valid {n : Int} (h0 : 0 ≤ n) (h1 : n ≤ 1000) : validB (szL n) (szH n) = true := by
  unfold szL szH
  rw [mx_eq, mx_eq, validB_iff]; omega
theorem dcO_valid {t : TrkV} (ht : trkB t = true) (lo hi : Int) : validB (mx (decO t lo hi).1 (-5400000)) (mn (decO t lo hi).2 5400000) = true := by
  have h := validB_iff.1 (decO_valid (gd_of ht) lo hi)
  have m := dec_meet (gd_of ht) lo hi
  rw [mx_eq, mn_eq] at m ⊢
  rw [validB_iff]; omega
theorem span_right {t : TrkV} (ht : trkB t = true) (lo hi : Int) : rgtG (spanV t lo hi) := by
  obtain ⟨p0, p1, q0, q1⟩ := szOk_of ht
  have g := ghaO_le ht lo hi
  exact ⟨turn_valid g, (turn_again g).1, (turn_again g).2, dcO_valid ht lo hi, sz_valid p0 p1, sz_valid q0 q1⟩
theorem hull_valid {a b c d : Int} (h : validB a b = true) (k : validB c d = true) : validB (mn a c) (mx b d) = true := by
  rw [validB_iff] at *
  rw [mn_eq, mx_eq]; omega
theorem join_right {x y : GeoV} (h : rgtG x) (k : rgtG y) (hx : TF x.a x.b) (hy : TF y.a y.b) : rgtG (joinV x y) := by
  obtain ⟨_, _, _, h4, h5, h6⟩ := h
  obtain ⟨_, _, _, k4, k5, k6⟩ := k
  have g := (validB_iff.1 (hul_valid hx hy)).1
  exact ⟨turn_valid g, (turn_again g).1, (turn_again g).2, hull_valid h4 k4, hull_valid h5 k5, hull_valid h6 k6⟩
theorem bodyR_right {lp : List PgV} {s : ByteArray} {a b : Int} (hok : ∀ p ∈ lp, PgOk p) (h : (bodyR lp s a b).2 = 0) : rgtG (bodyR lp s a b).1 := by
  cases h1 : trkAt lp s (a / 86400000) with
  | none => rw [bodyR_no h1] at h; cases h
  | some t =>
    have o1 := trkAt_ok hok h1
    by_cases e : a / 86400000 = b / 86400000
    · rw [bodyR_one h1 e]; exact span_right o1 _ _
    · cases h2 : trkAt lp s (b / 86400000) with
      | none => rw [bodyR_no2 h1 e h2] at h; cases h
      | some u =>
        have o2 := trkAt_ok hok h2
        rw [bodyR_two h1 e h2]
        exact join_right (span_right o1 _ _) (span_right o2 _ _) (tf_turn (ghaO_le o1 _ _)) (tf_turn (ghaO_le o2 _ _))
theorem whR_right {lp : List PgV} {ls : List StarV} {s : ByteArray} {a b : Int} (hok : ∀ p ∈ lp, PgOk p) (hc : catB ls = true) (h : (whR lp ls s a b).2 = 0) : rgtG (whR lp ls s a b).1 := by
  cases whW lp ls s a b with
  | bad k => rw [whR_bad k] at h; cases h
  | name t k => rw [whR_name t k] at h; cases h
  | wide t k d => rw [whR_wide t k d] at h; cases h
  | aries t d k =>
    rw [whR_aries t d k]
    have g := ariF_le (timB_iff.1 t).1
    exact ⟨turn_valid g, (turn_again g).1, (turn_again g).2, valid_00, valid_00, valid_00⟩
  | star i x t d k f g e =>
    rw [whR_star t d k f e]
    obtain ⟨cn, cnum, cf⟩ := (catB_iff.1 hc).ok i x g
    obtain ⟨-, ⟨y0, y1⟩, -, -⟩ : (0 ≤ x.sha ∧ x.sha ≤ 215999) ∧ (-54000 ≤ x.dec ∧ x.dec ≤ 54000) ∧ -20 ≤ x.mag ∧ x.mag ≤ 150 := by simpa [numB] using cnum
    exact star_right (timB_iff.1 t).1 y0 y1
  | body t d k f g c =>
    rw [whR_body t d k g c] at h ⊢
    exact bodyR_right hok h
end Go.Proofs.YthjfadfebhjhbaaGreat
/- The Taylor series of the sine and the cosine in nested form, and sums that are rounded at every step. No program in sight. -/
namespace Go.Proofs.YthjfadfebhjhbaaGreat

theorem rmul {a b c d : Rat} (h1 : 0 ≤ a) (h2 : a ≤ b) (h3 : 0 ≤ c) (h4 : c ≤ d) : a * c ≤ b * d :=
  Rat.le_trans (Rat.mul_le_mul_of_nonneg_left h4 h1) (Rat.mul_le_mul_of_nonneg_right h2 (Rat.le_trans h3 h4))
theorem rmul0 {a c : Rat} (h1 : 0 ≤ a) (h3 : 0 ≤ c) : 0 ≤ a * c := Rat.mul_nonneg h1 h3
/-- The distance is at most e. -/
def Nr (a b e : Rat) : Prop := a ≤ b + e ∧ b ≤ a + e
theorem Nr.symm {a b e : Rat} (h : Nr a b e) : Nr b a e := ⟨h.2, h.1⟩
theorem Nr.trans {a b c e f : Rat} (h : Nr a b e) (g : Nr b c f) : Nr a c (e + f) := by
  obtain ⟨h1, h2⟩ := h; obtain ⟨g1, g2⟩ := g; constructor <;> grind
theorem Nr.le {a b e f : Rat} (h : Nr a b e) (g : e ≤ f) : Nr a b f := by
  obtain ⟨h1, h2⟩ := h; constructor <;> grind
theorem Nr.add {a b c d e f : Rat} (h : Nr a b e) (g : Nr c d f) : Nr (a + c) (b + d) (e + f) := by
  obtain ⟨h1, h2⟩ := h; obtain ⟨g1, g2⟩ := g; constructor <;> grind
theorem Nr.sub {a b c d e f : Rat} (h : Nr a b e) (g : Nr c d f) : Nr (a - c) (b - d) (e + f) := by
  obtain ⟨h1, h2⟩ := h; obtain ⟨g1, g2⟩ := g; constructor <;> grind
theorem Nr.refl (a : Rat) : Nr a a 0 := by constructor <;> grind
theorem Nr.mulc {a b e c m : Rat} (h : Nr a b e) (h0 : 0 ≤ c) (h1 : c ≤ m) (he : 0 ≤ e) : Nr (c * a) (c * b) (m * e) := by
  obtain ⟨h2, h3⟩ := h
  have g1 := Rat.mul_le_mul_of_nonneg_left h2 h0
  have g2 := Rat.mul_le_mul_of_nonneg_left h3 h0
  have g3 := Rat.mul_le_mul_of_nonneg_right h1 he
  constructor <;> grind
theorem Nr.pos {a b e : Rat} (h : Nr a b e) : 0 ≤ e := by obtain ⟨h1, h2⟩ := h; grind
/-- Products: one factor of each pair is at most 1. -/
theorem Nr.mul {a b c d e f m n : Rat} (h : Nr a b e) (g : Nr c d f) (a0 : 0 ≤ a) (a1 : a ≤ m) (d0 : 0 ≤ d) (d1 : d ≤ n) : Nr (a * c) (b * d) (m * f + n * e) := by
  have h1 := (g.mulc a0 a1 g.pos)
  have h2 := (h.mulc d0 d1 h.pos)
  have := h1.trans (show Nr (a * d) (b * d) (n * e) by rw [Rat.mul_comm a, Rat.mul_comm b]; exact h2)
  exact this

/-- The nested form: m terms, the first divisor d (d + 1). -/
def tay (y : Rat) : Nat → Nat → Rat
  | _, 0 => 0
  | d, m + 1 => y / ((d : Rat) * (d + 1)) * (1 - tay y (d + 2) m)
theorem two_le {d : Nat} (h : 1 ≤ d) : (2 : Rat) ≤ (d : Rat) * (d + 1) := by
  have h1 : (1 : Rat) ≤ (d : Rat) := by exact_mod_cast h
  have := rmul (show (0 : Rat) ≤ 1 by decide) h1 (show (0 : Rat) ≤ 2 by decide) (show (2 : Rat) ≤ (d : Rat) + 1 by grind)
  grind
theorem div_ge {y k : Rat} (h0 : 0 ≤ y) (hk : 2 ≤ k) : 0 ≤ y / k ∧ y / k ≤ y / 2 ∧ y / k * k = y := by
  have hk0 : (0 : Rat) < k := by grind
  have e : y / k * k = y := Rat.div_mul_cancel (by grind)
  have hn : 0 ≤ y / k := by
    rw [Rat.div_def]
    exact rmul0 h0 (Rat.le_of_lt (Rat.inv_pos.2 hk0))
  refine ⟨hn, ?_, e⟩
  have := Rat.mul_le_mul_of_nonneg_left hk hn
  grind
theorem tay_in {y : Rat} (h0 : 0 ≤ y) (h1 : y ≤ 1) : ∀ {m d : Nat}, 1 ≤ d → 0 ≤ tay y d m ∧ tay y d m ≤ y / 2
  | 0, d, hd => by unfold tay; constructor <;> grind
  | m + 1, d, hd => by
    obtain ⟨a, b⟩ := tay_in h0 h1 (m := m) (d := d + 2) (by omega)
    obtain ⟨q0, q1, -⟩ := div_ge h0 (two_le hd)
    unfold tay
    have h2 : (0 : Rat) ≤ 1 - tay y (d + 2) m := by grind
    refine ⟨rmul0 q0 h2, ?_⟩
    have := rmul q0 q1 h2 (show 1 - tay y (d + 2) m ≤ 1 by grind)
    grind
/-- Further terms. -/
def facT : Nat → Nat → Nat
  | _, 0 => 1
  | d, m + 1 => d * (d + 1) * facT (d + 2) m
theorem facT_pos : ∀ {m d : Nat}, 1 ≤ d → 1 ≤ facT d m
  | 0, _, _ => Nat.le_refl _
  | m + 1, d, hd => by
    unfold facT
    have := facT_pos (m := m) (d := d + 2) (by omega)
    exact Nat.mul_pos (Nat.mul_pos (by omega) (by omega)) this
theorem tay_more {y : Rat} (h0 : 0 ≤ y) (h1 : y ≤ 1) (j : Nat) : ∀ {m d : Nat}, 1 ≤ d → Nr (tay y d (m + j)) (tay y d m) (1 / (2 * (facT d m : Rat)))
  | 0, d, hd => by
    obtain ⟨a, b⟩ := tay_in h0 h1 (m := j) hd
    rw [Nat.zero_add]
    show Nr _ 0 (1 / (2 * ((1 : Nat) : Rat)))
    have : (1 : Rat) / (2 * ((1 : Nat) : Rat)) = 1 / 2 := by simp
    rw [this]
    constructor <;> grind
  | m + 1, d, hd => by
    have ih := tay_more h0 h1 j (m := m) (d := d + 2) (by omega)
    obtain ⟨q0, q1, q2⟩ := div_ge h0 (two_le hd)
    have hf := facT_pos (m := m) (d := d + 2) (by omega)
    have hf2 : (1 : Rat) ≤ (facT (d + 2) m : Rat) := by exact_mod_cast hf
    obtain ⟨r0, r1, r2⟩ := div_ge (show (0 : Rat) ≤ 1 by decide) (two_le hd)
    rw [show m + 1 + j = m + j + 1 by omega]
    unfold tay facT
    have h2 : Nr (1 - tay y (d + 2) (m + j)) (1 - tay y (d + 2) m) (1 / (2 * (facT (d + 2) m : Rat))) := by
      have := (Nr.refl 1).sub ih
      exact this.le (by grind)
    have hy : y / ((d : Rat) * (d + 1)) ≤ 1 / ((d : Rat) * (d + 1)) := by
      rw [Rat.div_def, Rat.div_def]
      exact Rat.mul_le_mul_of_nonneg_right h1 (by rw [← Rat.one_mul (_)⁻¹, ← Rat.div_def]; exact r0)
    have h3 := h2.mulc q0 hy h2.pos
    refine h3.le ?_
    have e1 : ((d * (d + 1) * facT (d + 2) m : Nat) : Rat) = (d : Rat) * (d + 1) * (facT (d + 2) m : Rat) := by push_cast; rfl
    rw [e1]
    have := two_le hd
    grind
/-- Another argument. -/
theorem tay_arg {y z e : Rat} (h0 : 0 ≤ y) (h1 : y ≤ 1) (z0 : 0 ≤ z) (z1 : z ≤ 1) (h : Nr y z e) : ∀ {m d : Nat}, 1 ≤ d → Nr (tay y d m) (tay z d m) e
  | 0, d, hd => by
    have := h.pos
    unfold tay; constructor <;> grind
  | m + 1, d, hd => by
    have ih := tay_arg h0 h1 z0 z1 h (m := m) (d := d + 2) (by omega)
    obtain ⟨a, b⟩ := tay_in z0 z1 (m := m) (d := d + 2) (by omega)
    obtain ⟨q0, q1, q2⟩ := div_ge h0 (two_le hd)
    obtain ⟨r0, r1, r2⟩ := div_ge (show (0 : Rat) ≤ 1 by decide) (two_le hd)
    have he := h.pos
    unfold tay
    have hq : Nr (y / ((d : Rat) * (d + 1))) (z / ((d : Rat) * (d + 1))) (e / 2) := by
      have := h.mulc r0 r1 he
      rw [Rat.div_def, Rat.div_def, Rat.mul_comm y, Rat.mul_comm z]
      rw [Rat.div_def, Rat.one_mul] at this
      exact this.le (by grind)
    have h2 : Nr (1 - tay y (d + 2) m) (1 - tay z (d + 2) m) e := ((Nr.refl 1).sub ih).le (by grind)
    have := hq.mul h2 q0 q1 (show 0 ≤ 1 - tay z (d + 2) m by grind) (show 1 - tay z (d + 2) m ≤ 1 by grind)
    refine this.le ?_
    have := Rat.mul_le_mul_of_nonneg_right h1 he
    grind
end Go.Proofs.YthjfadfebhjhbaaGreat
/- The addition theorem for the step of one unit, by polynomials with integer coefficients. No program in sight. -/
namespace Go.Proofs.YthjfadfebhjhbaaGreat

def evI : List Int → Int → Int
  | [], _ => 0
  | a :: l, x => a + x * evI l x
def scI (k : Int) : List Int → List Int
  | [] => []
  | a :: l => k * a :: scI k l
def adI : List Int → List Int → List Int
  | [], m => m
  | a :: l, [] => a :: l
  | a :: l, b :: m => (a + b) :: adI l m
def shI : List Int → List Int
  | [] => []
  | a :: l => adI (a :: shI l) (shI l)
def inI : List Int → List Int
  | [] => []
  | a :: l => a :: 0 :: inI l
def abI : List Int → Nat → Nat
  | [], _ => 0
  | a :: l, N => a.natAbs + N * abI l N
theorem evI_sc (k x : Int) : ∀ l, evI (scI k l) x = k * evI l x
  | [] => by simp [scI, evI]
  | a :: l => by
    have := evI_sc k x l
    simp only [scI, evI, this]; grind
theorem evI_ad (x : Int) : ∀ l m, evI (adI l m) x = evI l x + evI m x
  | [], m => by simp [adI, evI]
  | a :: l, [] => by simp [adI, evI]
  | a :: l, b :: m => by
    have := evI_ad x l m
    simp only [adI, evI, this]; grind
theorem evI_sh (x : Int) : ∀ l, evI (shI l) x = evI l (x + 1)
  | [] => by simp [shI, evI]
  | a :: l => by
    have := evI_sh x l
    simp only [shI, evI, evI_ad, this]; grind
theorem evI_in (x : Int) : ∀ l, evI (inI l) x = evI l (x * x)
  | [] => by simp [inI, evI]
  | a :: l => by
    have := evI_in x l
    simp only [inI, evI, this]; grind
theorem evI_ab {N : Nat} {x : Int} (h : x.natAbs ≤ N) : ∀ l, (evI l x).natAbs ≤ abI l N
  | [] => by simp [evI, abI]
  | a :: l => by
    have ih := evI_ab h l
    have h1 : (x * evI l x).natAbs ≤ N * abI l N := by rw [Int.natAbs_mul]; exact Nat.mul_le_mul h ih
    simp only [evI, abI]
    omega
/-- The divisor and the list of the nested form; the argument is z a / b. -/
def dnT (b : Nat) : Nat → Nat → Nat
  | _, 0 => 1
  | d, m + 1 => b * (d * (d + 1)) * dnT b (d + 2) m
def liT (a b : Nat) : Nat → Nat → List Int
  | _, 0 => []
  | d, m + 1 => 0 :: scI a (adI [(dnT b (d + 2) m : Int)] (scI (-1) (liT a b (d + 2) m)))
theorem liT_ok {a b : Nat} (hb : b ≠ 0) {z : Int} : ∀ {m d : Nat}, 1 ≤ d → tay ((z : Rat) * (a : Rat) / (b : Rat)) d m * (dnT b d m : Rat) = ((evI (liT a b d m) z : Int) : Rat)
  | 0, d, hd => by unfold tay liT; simp [evI]
  | m + 1, d, hd => by
    have ih := liT_ok (a := a) hb (z := z) (m := m) (d := d + 2) (by omega)
    have h2 := two_le hd
    have hb2 : (b : Rat) ≠ 0 := by exact_mod_cast hb
    simp only [tay, liT, dnT, evI, evI_sc, evI_ad]
    push_cast
    rw [← ih]
    generalize tay _ (d + 2) m = T
    generalize (dnT b (d + 2) m : Rat) = F
    grind
/-- Pi times 2^256, rounded down, and the divisor of a unit of an angle. -/
def piN : Nat := 363771576891766324280234942777729862653393377328392429958772151117938894466185
def piD : Nat := 115792089237316195423570985008687907853269984665640564039457584007913129639936 * 10800000
/-- The angle of some units. -/
def xi (n : Nat) : Rat := (n : Rat) * ((piN : Rat) / (piD : Rat))
/-- Sines and cosines. -/
def sinT (n : Nat) : Rat := xi n * (1 - tay (xi n * xi n) 2 14)
def cosT (n : Nat) : Rat := 1 - tay (xi n * xi n) 1 14
def litA : List Int := adI [(dnT (piD * piD) 2 14 : Int)] (scI (-1) (liT (piN * piN) (piD * piD) 2 14))
def litB : List Int := adI [(dnT (piD * piD) 1 14 : Int)] (scI (-1) (liT (piN * piN) (piD * piD) 1 14))
/-- The common factor, and both lists. -/
def facW : Nat := piD * dnT (piD * piD) 2 14 * dnT (piD * piD) 1 14
def lisS : List Int := scI (dnT (piD * piD) 1 14 : Int) (0 :: inI (scI (piN : Int) litA))
def lisC : List Int := scI ((piD * dnT (piD * piD) 2 14 : Nat) : Int) (inI litB)
theorem piD_ne : piD ≠ 0 := by decide +kernel
section
variable {a b : Nat}
theorem xi_sq (hb : b ≠ 0) (n : Nat) : (n : Rat) * ((a : Rat) / (b : Rat)) * ((n : Rat) * ((a : Rat) / (b : Rat))) = (((n * n : Nat) : Int) : Rat) * ((a * a : Nat) : Rat) / ((b * b : Nat) : Rat) := by
  have hb2 : (b : Rat) ≠ 0 := by exact_mod_cast hb
  push_cast
  grind
theorem lis_ok (hb : b ≠ 0) (n d m : Nat) (hd : 1 ≤ d) : (1 - tay ((n : Rat) * ((a : Rat) / (b : Rat)) * ((n : Rat) * ((a : Rat) / (b : Rat)))) d m) * (dnT (b * b) d m : Rat) = ((evI (adI [(dnT (b * b) d m : Int)] (scI (-1) (liT (a * a) (b * b) d m))) ((n * n : Nat) : Int) : Int) : Rat) := by
  have h := liT_ok (a := a * a) (b := b * b) (Nat.mul_ne_zero hb hb) (z := ((n * n : Nat) : Int)) (m := m) hd
  rw [xi_sq hb n, evI_ad, evI_sc]
  generalize tay _ d m = T at *
  simp only [evI]
  push_cast at h ⊢
  rw [← h]
  grind
end
theorem lisS_ok (n : Nat) : sinT n * (facW : Rat) = ((evI lisS (n : Int) : Int) : Rat) := by
  have h := lis_ok (a := piN) piD_ne n 2 14 (by decide)
  have hp : (piD : Rat) ≠ 0 := by exact_mod_cast piD_ne
  unfold sinT lisS facW xi litA
  simp only [evI_sc, evI, evI_in]
  rw [show ((n : Int) * (n : Int)) = ((n * n : Nat) : Int) by push_cast; rfl]
  push_cast at h ⊢
  rw [← h]
  generalize tay _ 2 14 = T
  generalize (dnT _ 2 14 : Rat) = F
  generalize (dnT _ 1 14 : Rat) = G
  generalize (piN : Rat) = A at *
  generalize (piD : Rat) = B at *
  grind
theorem lisC_ok (n : Nat) : cosT n * (facW : Rat) = ((evI lisC (n : Int) : Int) : Rat) := by
  have h := lis_ok (a := piN) piD_ne n 1 14 (by decide)
  unfold cosT lisC facW xi litB
  simp only [evI_sc, evI_in]
  rw [show ((n : Int) * (n : Int)) = ((n * n : Nat) : Int) by push_cast; rfl]
  push_cast at h ⊢
  rw [← h]
  generalize tay _ 1 14 = T
  generalize (dnT _ 2 14 : Rat) = F
  generalize (dnT _ 1 14 : Rat) = G
  generalize (piD : Rat) = B at *
  grind
/-- From integers to distances. -/
theorem nr_of_int {a b W E : Rat} (hW : 0 < W) {x : Int} {M : Nat} (h : (a - b) * W = (x : Rat)) (hx : x.natAbs ≤ M) (hM : (M : Rat) ≤ E * W) : Nr a b E := by
  have h1 : (x : Rat) ≤ (M : Rat) := by
    have : x ≤ (M : Int) := by omega
    exact_mod_cast this
  have h2 : -(x : Rat) ≤ (M : Rat) := by
    have : -x ≤ (M : Int) := by omega
    exact_mod_cast this
  constructor
  · refine Rat.le_of_mul_le_mul_right (c := W) ?_ hW
    grind
  · refine Rat.le_of_mul_le_mul_right (c := W) ?_ hW
    grind
def stpS : List Int := adI (scI (facW : Int) (shI lisS)) (adI (scI (-(evI lisC 1)) lisS) (scI (-(evI lisS 1)) lisC))
def stpC : List Int := adI (scI (facW : Int) (shI lisC)) (adI (scI (-(evI lisC 1)) lisC) (scI (evI lisS 1) lisS))
theorem stpS_ab : abI stpS 2700000 * 1267650600228229401496703205376 ≤ facW * facW := by decide +kernel
theorem stpC_ab : abI stpC 2700000 * 1267650600228229401496703205376 ≤ facW * facW := by decide +kernel
theorem facW_pos : 0 < facW := by decide +kernel
theorem midS_ab : (evI lisS 2700000 - evI lisC 2700000).natAbs * 1267650600228229401496703205376 ≤ facW := by decide +kernel
/-- The error of a step. -/
def eps : Rat := 1 / 1267650600228229401496703205376
theorem eps_of {M W : Nat} (h : M * 1267650600228229401496703205376 ≤ W) : (M : Rat) ≤ eps * (W : Rat) := by
  have : (M : Rat) * 1267650600228229401496703205376 ≤ (W : Rat) := by exact_mod_cast h
  unfold eps
  grind
theorem facW_rat : (0 : Rat) < (facW : Rat) := by exact_mod_cast facW_pos
theorem sin_step {n : Nat} (h : n ≤ 2700000) : Nr (sinT (n + 1)) (sinT n * cosT 1 + cosT n * sinT 1) eps := by
  have h1 := lisS_ok (n + 1)
  have h2 := lisS_ok n
  have h3 := lisC_ok n
  have h4 := lisS_ok 1
  have h5 := lisC_ok 1
  have hb := Nat.le_trans (Nat.mul_le_mul_right _ (evI_ab (x := (n : Int)) (N := 2700000) (by omega) stpS)) stpS_ab
  have hW := facW_rat
  refine nr_of_int (W := (facW : Rat) * facW) (x := evI stpS (n : Int)) (Rat.mul_pos hW hW) ?_ (Nat.le_refl _) (by have := eps_of hb; push_cast at this; exact this)
  unfold stpS
  simp only [evI_ad, evI_sc, evI_sh]
  push_cast at h1 h2 h3 h4 h5 ⊢
  rw [← h1, ← h2, ← h3, ← h4, ← h5]
  grind
theorem cos_step {n : Nat} (h : n ≤ 2700000) : Nr (cosT (n + 1)) (cosT n * cosT 1 - sinT n * sinT 1) eps := by
  have h1 := lisC_ok (n + 1)
  have h2 := lisS_ok n
  have h3 := lisC_ok n
  have h4 := lisS_ok 1
  have h5 := lisC_ok 1
  have hb := Nat.le_trans (Nat.mul_le_mul_right _ (evI_ab (x := (n : Int)) (N := 2700000) (by omega) stpC)) stpC_ab
  have hW := facW_rat
  refine nr_of_int (W := (facW : Rat) * facW) (x := evI stpC (n : Int)) (Rat.mul_pos hW hW) ?_ (Nat.le_refl _) (by have := eps_of hb; push_cast at this; exact this)
  unfold stpC
  simp only [evI_ad, evI_sc, evI_sh]
  push_cast at h1 h2 h3 h4 h5 ⊢
  rw [← h1, ← h2, ← h3, ← h4, ← h5]
  grind
/-- An eighth of a turn: sine and cosine are alike. -/
theorem sin_mid : Nr (sinT 2700000) (cosT 2700000) eps := by
  have h2 : sinT 2700000 * (facW : Rat) = ((evI lisS 2700000 : Int) : Rat) := lisS_ok 2700000
  have h3 : cosT 2700000 * (facW : Rat) = ((evI lisC 2700000 : Int) : Rat) := lisC_ok 2700000
  refine nr_of_int (W := (facW : Rat)) (x := evI lisS 2700000 - evI lisC 2700000) facW_rat ?_ (Nat.le_refl _) (eps_of midS_ab)
  rw [show (sinT 2700000 - cosT 2700000) * (facW : Rat) = sinT 2700000 * (facW : Rat) - cosT 2700000 * (facW : Rat) by grind, h2, h3]
  generalize evI lisS 2700000 = u
  generalize evI lisC 2700000 = v
  push_cast
  rfl
end Go.Proofs.YthjfadfebhjhbaaGreat

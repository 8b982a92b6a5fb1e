/- Contracts and plain laws, several texts in one: Lst; Prt; Hz0; Fc2; Hz3; Mk1; Mk2; Mk3; Fd1; Fd2 -/
import Derived.Test.YtjfpgpipbooilaaGreatProg
import Derived.WalkKit
import Derived.WalkSpells
import Derived.WalkLawsBesides
import Derived.Lib.Hide
import Derived.BigQuiet
import Derived.Test.YtjfpgpipbooilaaGreatVAA
import Derived.Test.YtjfpgpipbooilaaGreatVAB
import Derived.Test.YtjfpgpipbooilaaGreatVAJ
import Derived.Test.YtjfpgpipbooilaaGreatVAM
import Derived.Test.YtjfpgpipbooilaaGreatVAX
import Derived.Test.YtjfpgpipbooilaaGreatVBD
import Derived.Test.YtjfpgpipbooilaaGreatVBF
import Derived.Test.YtjfpgpipbooilaaGreatVBG
import Derived.Test.YtjfpgpipbooilaaGreatVBI
import Derived.Test.YtjfpgpipbooilaaGreatVBT
/- The walk of the law AlmanacStars. -/
namespace Go.Proofs.YtjfpgpipbooilaaGreat
open Go.RowKit Go.Shelf

def rgtB (a b c d e f g h : Int) : Prop := validB a b = true ∧ turnLo a b = a ∧ turnHi a b = b ∧ validB c d = true ∧ validB e f = true ∧ validB g h = true
theorem turn_again {x y : Int} (h : x ≤ y) : turnLo (turnLo x y) (turnHi x y) = turnLo x y ∧ turnHi (turnLo x y) (turnHi x y) = turnHi x y := by
  unfold turnLo turnHi
  split
  · constructor <;> rfl
  · constructor
    · rw [if_neg (by omega)]; omega
    · rw [if_neg (by omega)]; omega
theorem dc_valid {n : Int} (h0 : -54000 ≤ n) (h1 : n ≤ 54000) : validB (dcL n) (dcH n) = true := by
  unfold dcL dcH
  rw [mx_eq, mn_eq, validB_iff]; omega
theorem star_right {a b sha dec : Int} (h : a ≤ b) (d0 : -54000 ≤ dec) (d1 : dec ≤ 54000) : rgtB (sgL a b sha) (sgH a b sha) (dcL dec) (dcH dec) 0 0 0 0 := by
  have b1 := ag_bd h
  have hx : agL a b + (100 * sha - 50) ≤ agH a b + (100 * sha + 50) := by omega
  exact ⟨turn_valid hx, (turn_again hx).1, (turn_again hx).2, dc_valid d0 d1, by decide, by decide⟩
end Go.Proofs.YtjfpgpipbooilaaGreat
/- A time has the places of its instants: the plain law. -/
namespace Go.Proofs.YtjfpgpipbooilaaGreat
open Go.RowKit Go.Shelf

def Dia (x0 y0 x1 y1 : Int) : Prop := 21600000 ≤ y1 - x1 ∨ (y0 - x0 < 21600000 ∧ (x0 - x1) % 21600000 + (y0 - x0) ≤ y1 - x1)
theorem Dia.sub {x0 y0 x1 y1 : Int} (h1 : x1 ≤ x0) (_ : x0 ≤ y0) (h3 : y0 ≤ y1) : Dia x0 y0 x1 y1 := by unfold Dia; omega
theorem Dia.turnL {x0 y0 x1 y1 : Int} (h : Dia x0 y0 x1 y1) : Dia (turnLo x0 y0) (turnHi x0 y0) x1 y1 := by
  unfold Dia at *
  unfold turnLo turnHi
  rcases h with h | ⟨h1, h2⟩
  · exact .inl h
  · right
    rw [if_neg (by omega), if_neg (by omega)]
    omega
theorem Dia.turnR {x0 y0 x1 y1 : Int} (h : Dia x0 y0 x1 y1) : Dia x0 y0 (turnLo x1 y1) (turnHi x1 y1) := by
  unfold Dia at *
  unfold turnLo turnHi
  by_cases k : 21600000 ≤ y1 - x1
  · rw [if_pos k, if_pos k]; omega
  · rw [if_neg k, if_neg k]; omega
theorem Dia.add {x0 y0 x1 y1 c d : Int} (h : Dia x0 y0 x1 y1) (hc : c ≤ d) : Dia (x0 + c) (y0 + d) (x1 + c) (y1 + d) := by
  unfold Dia at *
  rw [show x0 + c - (x1 + c) = x0 - x1 by omega]
  omega
theorem Dia.monoR {x0 y0 x1 y1 x2 y2 : Int} (h : Dia x0 y0 x1 y1) (h1 : x2 ≤ x1) (h2 : y1 ≤ y2) : Dia x0 y0 x2 y2 := by unfold Dia at *; omega
theorem Dia.shiftR {x0 y0 x1 y1 x2 y2 : Int} (h : Dia x0 y0 x1 y1) (h1 : (x2 - x1) % 21600000 = 0) (h2 : y2 - x2 = y1 - x1) : Dia x0 y0 x2 y2 := by
  unfold Dia at *
  have : (x0 - x2) % 21600000 = (x0 - x1) % 21600000 := by omega
  rw [this]; omega
theorem sgn_mod (n : Int) : (sgnI n - n) % 21600000 = 0 := by unfold sgnI; split <;> omega
theorem Dia.joinL {x0 y0 a b c d : Int} (h : Dia x0 y0 a b) : Dia x0 y0 (turnLo (hulL a c) (hulH a b c d)) (turnHi (hulL a c) (hulH a b c d)) := by
  refine Dia.turnR (h.monoR ?_ ?_)
  · unfold hulL; rw [mn_eq]; omega
  · unfold hulH; rw [mx_eq]; omega
theorem Dia.joinR {x0 y0 a b c d : Int} (h : Dia x0 y0 c d) : Dia x0 y0 (turnLo (hulL a c) (hulH a b c d)) (turnHi (hulL a c) (hulH a b c d)) := by
  have hs := sgn_mod (c - a)
  refine Dia.turnR ((h.shiftR (x2 := a + sgnI (c - a)) (y2 := a + sgnI (c - a) + d - c) ?_ ?_).monoR ?_ ?_)
  · rw [show a + sgnI (c - a) - c = sgnI (c - a) - (c - a) by omega]; exact hs
  · omega
  · unfold hulL; rw [mn_eq]; omega
  · unfold hulH; rw [mx_eq]; omega
structure PartOk (x g : GeoV) : Prop where
  gha : Dia x.a x.b g.a g.b
  dec : g.c ≤ x.c ∧ x.d ≤ g.d
  semi : g.e ≤ x.e ∧ x.f ≤ g.f
  par : g.g ≤ x.g ∧ x.h ≤ g.h
theorem ariF_mono {a b : Int} (h : a ≤ b) : ariF a ≤ ariF b := by
  have h1 : ariV a ≤ ariV b := by unfold ariV; omega
  have := Int.ediv_le_ediv (c := 86400000000000) (by decide) h1
  unfold ariF; omega
theorem ceil_mono {K V W : Int} (hK : 0 < K) (h : V ≤ W) : (if 0 < V % K then V / K + 1 else V / K) ≤ (if 0 < W % K then W / K + 1 else W / K) := by
  have h1 := Int.ediv_le_ediv hK h
  have e1 := Int.emod_add_mul_ediv V K
  have e2 := Int.emod_add_mul_ediv W K
  by_cases e : V / K = W / K
  · rw [e] at e1 ⊢
    split <;> split <;> omega
  · split <;> split <;> omega
theorem ariU_mono {a b : Int} (h : a ≤ b) : ariU a ≤ ariU b := by
  have h1 : ariV a ≤ ariV b := by unfold ariV; omega
  have := ceil_mono (K := 86400000000000) (by decide) h1
  unfold ariU ariF ariR
  split at this <;> split at this <;> (rename_i p q; simp only [p, q, if_true, if_false]; omega)
theorem ag_part {a b n : Int} (h1 : a ≤ n) (h2 : n ≤ b) : Dia (agL n n) (agH n n) (agL a b) (agH a b) :=
  (Dia.sub (ariF_mono h1) (ariF_le (Int.le_refl n)) (ariU_mono h2)).turnL.turnR
theorem gha_part {t : TrkV} (ht : trkB t = true) {lo hi f u : Int} (h1 : lo ≤ f) (h2 : f ≤ u) (h3 : u ≤ hi) : PartOk (spanV t f u) (spanV t lo hi) := by
  have r0 := (gd_of ht).r0
  have g := ovr_sub (arcA (ang t.g)) (r := t.r) r0 h1 h2 h3
  have d := ovr_sub (arcA (dcl t.d)) (r := t.r) r0 h1 h2 h3
  change (ghaO t lo hi).1 ≤ (ghaO t f u).1 ∧ (ghaO t f u).2 ≤ (ghaO t lo hi).2 at g
  change (decO t lo hi).1 ≤ (decO t f u).1 ∧ (decO t f u).2 ≤ (decO t lo hi).2 at d
  refine ⟨(Dia.sub g.1 (ghaO_le ht f u) g.2).turnL.turnR, ?_, ⟨Int.le_refl _, Int.le_refl _⟩, ⟨Int.le_refl _, Int.le_refl _⟩⟩
  unfold spanV
  dsimp only
  rw [mx_eq, mx_eq, mn_eq, mn_eq]; omega
theorem PartOk.left {x g h : GeoV} (k : PartOk x g) : PartOk x (joinV g h) := by
  obtain ⟨k1, k2, k3, k4⟩ := k
  refine ⟨k1.joinL, ?_, ?_, ?_⟩ <;> (unfold joinV; dsimp only; rw [mn_eq, mx_eq]; omega)
theorem PartOk.right {x g h : GeoV} (k : PartOk x h) : PartOk x (joinV g h) := by
  obtain ⟨k1, k2, k3, k4⟩ := k
  refine ⟨k1.joinR, ?_, ?_, ?_⟩ <;> (unfold joinV; dsimp only; rw [mn_eq, mx_eq]; omega)
theorem bodyR_part {lp : List PgV} {s : ByteArray} {a b n : Int} (hok : ∀ p ∈ lp, PgOk p) (h1 : a ≤ n) (h2 : n ≤ b) (h3 : b - a < 86400000) (h : (bodyR lp s a b).2 = 0) :
    (bodyR lp s n n).2 = 0 ∧ PartOk (bodyR lp s n n).1 (bodyR lp s a b).1 := by
  cases k1 : trkAt lp s (a / 86400000) with
  | none => rw [bodyR_no k1] at h; cases h
  | some t =>
    have o1 := trkAt_ok hok k1
    by_cases e : a / 86400000 = b / 86400000
    · have en : n / 86400000 = a / 86400000 := by omega
      rw [bodyR_one k1 e, bodyR_one (a := n) (b := n) (by rw [en]; exact k1) rfl, en]
      exact ⟨rfl, gha_part o1 (by omega) (by omega) (by omega)⟩
    · cases k2 : trkAt lp s (b / 86400000) with
      | none => rw [bodyR_no2 k1 e k2] at h; cases h
      | some u =>
        have o2 := trkAt_ok hok k2
        rw [bodyR_two k1 e k2]
        by_cases en : n / 86400000 = a / 86400000
        · rw [bodyR_one (a := n) (b := n) (by rw [en]; exact k1) rfl, en]
          exact ⟨rfl, (gha_part o1 (by omega) (by omega) (by omega)).left⟩
        · have en2 : n / 86400000 = b / 86400000 := by omega
          rw [bodyR_one (a := n) (b := n) (by rw [en2]; exact k2) rfl, en2]
          exact ⟨rfl, (gha_part o2 (by omega) (by omega) (by omega)).right⟩
theorem whR_part {lp : List PgV} {ls : List StarV} {s : ByteArray} {a b n : Int} (hok : ∀ p ∈ lp, PgOk p) (h1 : a ≤ n) (h2 : n ≤ b) (h : (whR lp ls s a b).2 = 0) :
    (whR lp ls s n n).2 = 0 ∧ PartOk (whR lp ls s n n).1 (whR lp ls s a b).1 := by
  cases whW lp ls s a b with
  | bad k => rw [whR_bad k] at h; cases h
  | name t k => rw [whR_name t k] at h; cases h
  | wide t k d => rw [whR_wide t k d] at h; cases h
  | aries t d k =>
    have tn : timB n n = true := by have := timB_iff.1 t; exact timB_iff.2 (by omega)
    rw [whR_aries t d k, whR_aries tn (by omega) k]
    exact ⟨rfl, ag_part h1 h2, ⟨Int.le_refl _, Int.le_refl _⟩, ⟨Int.le_refl _, Int.le_refl _⟩, ⟨Int.le_refl _, Int.le_refl _⟩⟩
  | star i x t d k f g e =>
    have tn : timB n n = true := by have := timB_iff.1 t; exact timB_iff.2 (by omega)
    rw [whR_star t d k f e, whR_star tn (by omega) k f e]
    exact ⟨rfl, ((ag_part h1 h2).add (by omega)).turnL.turnR, ⟨Int.le_refl _, Int.le_refl _⟩, ⟨Int.le_refl _, Int.le_refl _⟩, ⟨Int.le_refl _, Int.le_refl _⟩⟩
  | body t d k f g c =>
    have tn : timB n n = true := by have := timB_iff.1 t; exact timB_iff.2 (by omega)
    rw [whR_body t d k g c] at h ⊢
    rw [whR_body tn (by omega) k g c]
    exact bodyR_part hok h1 h2 d h
theorem valid_00 : validB 0 0 = true := by decide
def rgtG (g : GeoV) : Prop := rgtB g.a g.b g.c g.d g.e g.f g.g g.h
theorem sz_valid {n : Int} (h0 : 0 ≤ n) (h1 : n ≤ 1000) : validB (szL n) (szH n) = true := by
  unfold szL szH
  rw [mx_eq, mx_eq, validB_iff]; omega
theorem dcO_valid {t : TrkV} (ht : trkB t = true) (lo hi : Int) : validB (mx (decO t lo hi).1 (-5400000)) (mn (decO t lo hi).2 5400000) = true := by
  have h := validB_iff.1 (decO_valid (gd_of ht) lo hi)
  have m := dec_meet (gd_of ht) lo hi
  rw [mx_eq, mn_eq] at m ⊢
  rw [validB_iff]; omega
theorem span_right {t : TrkV} (ht : trkB t = true) (lo hi : Int) : rgtG (spanV t lo hi) := by
  obtain ⟨p0, p1, q0, q1⟩ := szOk_of ht
  have g := ghaO_le ht lo hi
  exact ⟨turn_valid g, (turn_again g).1, (turn_again g).2, dcO_valid ht lo hi, sz_valid p0 p1, sz_valid q0 q1⟩
theorem hull_valid {a b c d : Int} (h : validB a b = true) (k : validB c d = true) : validB (mn a c) (mx b d) = true := by
  rw [validB_iff] at *
  rw [mn_eq, mx_eq]; omega
theorem join_right {x y : GeoV} (h : rgtG x) (k : rgtG y) (hx : TF x.a x.b) (hy : TF y.a y.b) : rgtG (joinV x y) := by
  obtain ⟨_, _, _, h4, h5, h6⟩ := h
  obtain ⟨_, _, _, k4, k5, k6⟩ := k
  have g := (validB_iff.1 (hul_valid hx hy)).1
  exact ⟨turn_valid g, (turn_again g).1, (turn_again g).2, hull_valid h4 k4, hull_valid h5 k5, hull_valid h6 k6⟩
theorem bodyR_right {lp : List PgV} {s : ByteArray} {a b : Int} (hok : ∀ p ∈ lp, PgOk p) (h : (bodyR lp s a b).2 = 0) : rgtG (bodyR lp s a b).1 := by
  cases h1 : trkAt lp s (a / 86400000) with
  | none => rw [bodyR_no h1] at h; cases h
  | some t =>
    have o1 := trkAt_ok hok h1
    by_cases e : a / 86400000 = b / 86400000
    · rw [bodyR_one h1 e]; exact span_right o1 _ _
    · cases h2 : trkAt lp s (b / 86400000) with
      | none => rw [bodyR_no2 h1 e h2] at h; cases h
      | some u =>
        have o2 := trkAt_ok hok h2
        rw [bodyR_two h1 e h2]
        exact join_right (span_right o1 _ _) (span_right o2 _ _) (tf_turn (ghaO_le o1 _ _)) (tf_turn (ghaO_le o2 _ _))
theorem whR_right {lp : List PgV} {ls : List StarV} {s : ByteArray} {a b : Int} (hok : ∀ p ∈ lp, PgOk p) (hc : catB ls = true) (h : (whR lp ls s a b).2 = 0) : rgtG (whR lp ls s a b).1 := by
  cases whW lp ls s a b with
  | bad k => rw [whR_bad k] at h; cases h
  | name t k => rw [whR_name t k] at h; cases h
  | wide t k d => rw [whR_wide t k d] at h; cases h
  | aries t d k =>
    rw [whR_aries t d k]
    have g := ariF_le (timB_iff.1 t).1
    exact ⟨turn_valid g, (turn_again g).1, (turn_again g).2, valid_00, valid_00, valid_00⟩
  | star i x t d k f g e =>
    rw [whR_star t d k f e]
    obtain ⟨cn, cnum, cf⟩ := (catB_iff.1 hc).ok i x g
    obtain ⟨-, ⟨y0, y1⟩, -, -⟩ : (0 ≤ x.sha ∧ x.sha ≤ 215999) ∧ (-54000 ≤ x.dec ∧ x.dec ≤ 54000) ∧ -20 ≤ x.mag ∧ x.mag ≤ 150 := by simpa [numB] using cnum
    exact star_right (timB_iff.1 t).1 y0 y1
  | body t d k f g c =>
    rw [whR_body t d k g c] at h ⊢
    exact bodyR_right hok h
theorem bodyR_e {lp : List PgV} {s : ByteArray} {a b : Int} : (bodyR lp s a b).2 = 0 ∨ (bodyR lp s a b).2 = 20 := by
  unfold bodyR
  split
  · exact .inr rfl
  · split
    · exact .inl rfl
    · split
      · exact .inr rfl
      · exact .inl rfl
end Go.Proofs.YtjfpgpipbooilaaGreat
/- Altitudes of arcs: a part's altitude lies within the whole's. Plain Lean. -/
namespace Go.Proofs.YtjfpgpipbooilaaGreat
open Go.RowKit Go.Shelf

theorem metB_sh (lo hi n k : Int) : metB (lo + 21600000 * k) (hi + 21600000 * k) n = metB lo hi n := by
  unfold metB
  rw [decide_eq_decide]
  omega
theorem enc_turn (lo hi k : Int) : encL (lo + 21600000 * k) (hi + 21600000 * k) = encL lo hi ∧ encH (lo + 21600000 * k) (hi + 21600000 * k) = encH lo hi := by
  rw [encL_at, encL_at, encH_at, encH_at, metB_sh, metB_sh, (b_shift lo k).1, (b_shift lo k).2, (b_shift hi k).1, (b_shift hi k).2]
  exact ⟨rfl, rfl⟩
theorem enc_dia {x0 y0 x1 y1 : Int} (h : x0 ≤ y0) (d : Dia x0 y0 x1 y1) : encL x1 y1 ≤ encL x0 y0 ∧ encH x0 y0 ≤ encH x1 y1 := by
  have e := @enc_in x0 y0
  rcases d with d | ⟨d1, d2⟩
  · have m1 : metB x1 y1 16200000 = true := by unfold metB; rw [decide_eq_true_eq]; omega
    have m2 : metB x1 y1 5400000 = true := by unfold metB; rw [decide_eq_true_eq]; omega
    rw [encL_at x1, encH_at x1, m1, m2, if_pos rfl, if_pos rfl]
    omega
  · have t := enc_turn x0 y0 (-((x0 - x1) / 21600000))
    have p := enc_part (lo := x1) (hi := y1) (x := x0 + 21600000 * (-((x0 - x1) / 21600000))) (y := y0 + 21600000 * (-((x0 - x1) / 21600000))) (by omega) (by omega) (by omega)
    rw [t.1, t.2] at p
    exact p
theorem cos_dia {x0 y0 x1 y1 : Int} (h : x0 ≤ y0) (d : Dia x0 y0 x1 y1) : cosL x1 y1 ≤ cosL x0 y0 ∧ cosH x0 y0 ≤ cosH x1 y1 := by
  unfold cosL cosH
  exact enc_dia (by omega) (d.add (Int.le_refl _))
theorem alt_part {a0 a1 b0 b1 c0 c1 p0 p1 q0 q1 r0 r1 : Int} (h0 : a0 ≤ p0) (h : p0 ≤ p1) (h1 : p1 ≤ a1) (g0 : b0 ≤ q0) (g : q0 ≤ q1) (g1 : q1 ≤ b1) (hc : r0 ≤ r1) (d : Dia r0 r1 c0 c1) :
    altS0 a0 a1 b0 b1 c0 c1 ≤ altS0 p0 p1 q0 q1 r0 r1 ∧ altS1 p0 p1 q0 q1 r0 r1 ≤ altS1 a0 a1 b0 b1 c0 c1 := by
  have e1 := enc_part h0 h h1
  have e2 := enc_part g0 g g1
  have c1' : cosL a0 a1 ≤ cosL p0 p1 ∧ cosH p0 p1 ≤ cosH a0 a1 := by unfold cosL cosH; exact enc_part (by omega) (by omega) (by omega)
  have c2' : cosL b0 b1 ≤ cosL q0 q1 ∧ cosH q0 q1 ≤ cosH b0 b1 := by unfold cosL cosH; exact enc_part (by omega) (by omega) (by omega)
  have c3' := cos_dia hc d
  have m1 := mul_part e1.1 enc_in.2.1 e1.2 e2.1 enc_in.2.1 e2.2
  have m2 : ccL a0 a1 b0 b1 ≤ ccL p0 p1 q0 q1 ∧ ccH p0 p1 q0 q1 ≤ ccH a0 a1 b0 b1 := mul_part c1'.1 (cos_in2 _ _).2.1 c1'.2 c2'.1 (cos_in2 _ _).2.1 c2'.2
  have m3 := mul_part m2.1 (cc_in _ _ _ _).2.1 m2.2 c3'.1 (cos_in2 _ _).2.1 c3'.2
  unfold altS0 altS1 ssL ssH c3L c3H
  omega
theorem as_part {L H l h : Int} (hE : asE L H = 0) (hl : l ≤ L) (hh : H ≤ h) (hf : fxB l h = true) : asE l h = 0 ∧ asL l h ≤ asL L H ∧ asH L H ≤ asH l h ∧ -5400000 ≤ asL l h ∧ asH l h ≤ 5400000 := by
  have hE2 : asE l h = 0 := by
    have hE' := hE
    rw [asE_at] at hE' ⊢
    rw [hf, if_neg (by decide)]
    rw [mn_eq, mx_eq] at *
    split at hE'
    · omega
    · split at hE' <;> split <;> omega
  have m1 := asnI_mono (v := mx l (-1073741824)) (u := mx L (-1073741824)) (by rw [mx_eq]; omega) (by rw [mx_eq, mx_eq]; omega)
  have m2 := asnI_mono (v := -(mn h 1073741824)) (u := -(mn H 1073741824)) (by rw [mn_eq]; omega) (by rw [mn_eq, mn_eq]; omega)
  have i1 := asnI_in (v := mx l (-1073741824)) (by rw [mx_eq]; omega)
  have i2 := asnI_in (v := -(mn h 1073741824)) (by rw [mn_eq]; omega)
  unfold asL asH
  rw [if_pos hE, if_pos hE, if_pos hE2, if_pos hE2]
  omega
theorem alt_someG {a0 a1 b0 b1 c0 c1 : Int} (ha : latB a0 a1 = true) (hb : latB b0 b1 = true) (hc : c0 ≤ c1) :
    asE (altS0 a0 a1 b0 b1 c0 c1) (altS1 a0 a1 b0 b1 c0 c1) = 0 ∧ -5400000 ≤ asL (altS0 a0 a1 b0 b1 c0 c1) (altS1 a0 a1 b0 b1 c0 c1) ∧ asL (altS0 a0 a1 b0 b1 c0 c1) (altS1 a0 a1 b0 b1 c0 c1) ≤ asH (altS0 a0 a1 b0 b1 c0 c1) (altS1 a0 a1 b0 b1 c0 c1) ∧ asH (altS0 a0 a1 b0 b1 c0 c1) (altS1 a0 a1 b0 b1 c0 c1) ≤ 5400000 := by
  obtain ⟨u1, u2, u3⟩ := latB_iff.1 ha
  obtain ⟨v1, v2, v3⟩ := latB_iff.1 hb
  have p := alt_some (lat := a0) (dec := b0) (lha := c0) u2 (by omega) v2 (by omega)
  have q := alt_part (Int.le_refl a0) (Int.le_refl a0) u1 (Int.le_refl b0) (Int.le_refl b0) v1 (Int.le_refl c0) (Dia.sub (x1 := c0) (y1 := c1) (Int.le_refl c0) (Int.le_refl c0) hc)
  have r := as_part p.1 q.1 q.2 (alt_fx _ _ _ _ _ _)
  omega
noncomputable def hzS0 (lp : List PgV) (ls : List StarV) (s : ByteArray) (a b u v x y : Int) : Int := altS0 u v (whR lp ls s a b).1.c (whR lp ls s a b).1.d (lhaL lp ls s a b x y) (lhaH lp ls s a b x y)
noncomputable def hzS1 (lp : List PgV) (ls : List StarV) (s : ByteArray) (a b u v x y : Int) : Int := altS1 u v (whR lp ls s a b).1.c (whR lp ls s a b).1.d (lhaL lp ls s a b x y) (lhaH lp ls s a b x y)
noncomputable def hzL (lp : List PgV) (ls : List StarV) (s : ByteArray) (a b u v x y : Int) : Int := if lhaE lp ls s a b x y = 0 then asL (hzS0 lp ls s a b u v x y) (hzS1 lp ls s a b u v x y) else 0
noncomputable def hzH (lp : List PgV) (ls : List StarV) (s : ByteArray) (a b u v x y : Int) : Int := if lhaE lp ls s a b x y = 0 then asH (hzS0 lp ls s a b u v x y) (hzS1 lp ls s a b u v x y) else 0
theorem bodyR_dec {lp : List PgV} {s : ByteArray} {a b : Int} (h : (bodyR lp s a b).2 = 0) : -5400000 ≤ (bodyR lp s a b).1.c ∧ (bodyR lp s a b).1.d ≤ 5400000 := by
  cases h1 : trkAt lp s (a / 86400000) with
  | none => rw [bodyR_no h1] at h; cases h
  | some t =>
    by_cases e : a / 86400000 = b / 86400000
    · rw [bodyR_one h1 e]; unfold spanV; simp only; rw [mx_eq, mn_eq]; omega
    · cases h2 : trkAt lp s (b / 86400000) with
      | none => rw [bodyR_no2 h1 e h2] at h; cases h
      | some u => rw [bodyR_two h1 e h2]; unfold joinV spanV; simp only; rw [mx_eq, mx_eq, mn_eq, mn_eq, mn_eq, mx_eq]; omega
theorem whR_dec {lp : List PgV} {ls : List StarV} {s : ByteArray} {a b : Int} (h : (whR lp ls s a b).2 = 0) : -5400000 ≤ (whR lp ls s a b).1.c ∧ (whR lp ls s a b).1.d ≤ 5400000 := by
  cases whW lp ls s a b with
  | bad k => rw [whR_bad k] at h; cases h
  | name t k => rw [whR_name t k] at h; cases h
  | wide t k d => rw [whR_wide t k d] at h; cases h
  | aries t d k => rw [whR_aries t d k]; simp only; omega
  | star i x t d k f g e => rw [whR_star t d k f e]; simp only; unfold dcL dcH; rw [mx_eq, mn_eq]; omega
  | body t d k f g c => rw [whR_body t d k g c] at h ⊢; exact bodyR_dec h
variable {lp : List PgV} {ls : List StarV} {s : ByteArray}
theorem lhaE_z {a b x y : Int} : lhaE lp ls s a b x y = 0 ↔ timB a b = true ∧ validB x y = true ∧ (whR lp ls s a b).2 = 0 := by
  unfold lhaE
  cases timB a b
  · simp
  · cases validB x y
    · simp
    · simp
theorem lha_is {a b x y : Int} (h : lhaE lp ls s a b x y = 0) : lhaL lp ls s a b x y = turnLo ((whR lp ls s a b).1.a + turnLo x y) ((whR lp ls s a b).1.b + turnHi x y) ∧ lhaH lp ls s a b x y = turnHi ((whR lp ls s a b).1.a + turnLo x y) ((whR lp ls s a b).1.b + turnHi x y) := by
  unfold lhaL lhaH
  rw [if_pos h, if_pos h]
  exact ⟨rfl, rfl⟩
structure HzOk (lp : List PgV) (ls : List StarV) (s : ByteArray) (a b u v x y : Int) : Prop where
  dec : latB (whR lp ls s a b).1.c (whR lp ls s a b).1.d = true
  lha : validB (lhaL lp ls s a b x y) (lhaH lp ls s a b x y) = true
  asn : asE (hzS0 lp ls s a b u v x y) (hzS1 lp ls s a b u v x y) = 0
  lo : -5400000 ≤ hzL lp ls s a b u v x y
  le : hzL lp ls s a b u v x y ≤ hzH lp ls s a b u v x y
  hi : hzH lp ls s a b u v x y ≤ 5400000
theorem hz_ok {a b u v x y : Int} (k : NewOk lp ls) (hu : latB u v = true) (h : lhaE lp ls s a b x y = 0) : HzOk lp ls s a b u v x y := by
  obtain ⟨t, vx, w0⟩ := lhaE_z.1 h
  have r := whR_right k.ok k.cat w0
  have d := whR_dec w0
  have f := whR_tf k.ok w0
  obtain ⟨e1, e2⟩ := lha_is h
  have tb := turn_bd (validB_iff.1 vx).1
  have hd : latB (whR lp ls s a b).1.c (whR lp ls s a b).1.d = true := latB_iff.2 ⟨(validB_iff.1 r.2.2.2.1).1, d.1, d.2⟩
  have hl : validB (lhaL lp ls s a b x y) (lhaH lp ls s a b x y) = true := by rw [e1, e2]; exact turn_valid (by have := f.h2; omega)
  have q := alt_someG hu hd (validB_iff.1 hl).1
  refine ⟨hd, hl, q.1, ?_, ?_, ?_⟩
  · unfold hzL; rw [if_pos h]; exact q.2.1
  · unfold hzL hzH; rw [if_pos h, if_pos h]; exact q.2.2.1
  · unfold hzH; rw [if_pos h]; exact q.2.2.2
end Go.Proofs.YtjfpgpipbooilaaGreat
/- cosine: Azimuth, Solve. -/
namespace Go.Proofs.YtjfpgpipbooilaaGreat
set_option maxHeartbeats 1000000
set_option maxRecDepth 100000
open Go.RowKit

theorem cos_Azimuth (a0 a1 b0 b1 c0 c1 : Int) (w : World) (h : triB a0 a1 b0 b1 c0 c1 = true) :
    Calls Tryz.prog 46 #[(.agg #[.int .i64 (a0), .int .i64 (a1), .int .i64 (b0), .int .i64 (b1), .int .i64 (c0), .int .i64 (c1)])] w fun e w' => e = .returned (.tuple #[(.agg #[.int .i64 ((azF a0 a1 b0 b1 c0 c1).1), .int .i64 ((azF a0 a1 b0 b1 c0 c1).2)]), .int .i64 0]) ∧ ∃ d, w' = bw w d := by
  have HV := Lib.hid (fun W => cos_Valid a0 a1 b0 b1 c0 c1 W)
  rw [h] at HV
  unfold triB at h
  simp only [Bool.and_eq_true] at h
  have HA := Lib.hid (fun W => cos_azimuth a0 a1 b0 b1 c0 c1 W (lat_valid h.1.1) (lat_valid h.1.2) h.2)
  generalize (azF a0 a1 b0 b1 c0 c1).1 = u at *
  generalize (azF a0 a1 b0 b1 c0 c1).2 = v at *
  clear h
  refine lay_start ?_
  go_enter Tryz.func46, Tryz.ntmps46
  go_wp2_with (first | (go_at_call 47; refine (HV.out _).mono ?_; rintro e w' ⟨rfl, d1, rfl⟩; rw [lay_bw]) | (go_at_call 89; refine (HA.out _).mono ?_; rintro e w' ⟨rfl, d2, rfl⟩; rw [lay_bw]))
  exact bodyPost_ret (v := .tuple #[(.agg #[.int .i64 (u), .int .i64 (v)]), .int .i64 0]) (by simp [results, Tryz.results46, go_sem]) rfl ⟨rfl, lay_ex _ _⟩
noncomputable def alL (a0 a1 b0 b1 c0 c1 : Int) : Int := asL (altS0 a0 a1 b0 b1 c0 c1) (altS1 a0 a1 b0 b1 c0 c1)
noncomputable def alH (a0 a1 b0 b1 c0 c1 : Int) : Int := asH (altS0 a0 a1 b0 b1 c0 c1) (altS1 a0 a1 b0 b1 c0 c1)
theorem al_bd {a0 a1 b0 b1 c0 c1 : Int} (h : triB a0 a1 b0 b1 c0 c1 = true) : asE (altS0 a0 a1 b0 b1 c0 c1) (altS1 a0 a1 b0 b1 c0 c1) = 0 ∧ -5400000 ≤ alL a0 a1 b0 b1 c0 c1 ∧ alL a0 a1 b0 b1 c0 c1 ≤ alH a0 a1 b0 b1 c0 c1 ∧ alH a0 a1 b0 b1 c0 c1 ≤ 5400000 := by
  unfold triB at h
  simp only [Bool.and_eq_true] at h
  exact alt_someG h.1.1 h.1.2 (validB_iff.1 h.2).1
theorem cos_Solve (a0 a1 b0 b1 c0 c1 : Int) (w : World) (h : triB a0 a1 b0 b1 c0 c1 = true) :
    Calls Tryz.prog 20 #[(.agg #[.int .i64 (a0), .int .i64 (a1), .int .i64 (b0), .int .i64 (b1), .int .i64 (c0), .int .i64 (c1)])] w fun e w' => e = .returned (.tuple #[(.agg #[.int .i64 (alL a0 a1 b0 b1 c0 c1), .int .i64 (alH a0 a1 b0 b1 c0 c1), .int .i64 ((azF a0 a1 b0 b1 c0 c1).1), .int .i64 ((azF a0 a1 b0 b1 c0 c1).2)]), .int .i64 0]) ∧ ∃ d, w' = bw w d := by
  have HA := Lib.hid (fun W => cos_Altitude a0 a1 b0 b1 c0 c1 W h)
  have HZ := Lib.hid (fun W => cos_Azimuth a0 a1 b0 b1 c0 c1 W h)
  rw [(al_bd h).1] at HA
  change Hid (∀ W, Calls _ _ _ W fun e w' => e = .returned (.tuple #[(.agg #[.int .i64 (alL a0 a1 b0 b1 c0 c1), .int .i64 (alH a0 a1 b0 b1 c0 c1)]), .int .i64 0]) ∧ _) at HA
  generalize alL a0 a1 b0 b1 c0 c1 = p at *
  generalize alH a0 a1 b0 b1 c0 c1 = q at *
  generalize (azF a0 a1 b0 b1 c0 c1).1 = u at *
  generalize (azF a0 a1 b0 b1 c0 c1).2 = v at *
  clear h
  refine lay_start ?_
  go_enter Tryz.func20, Tryz.ntmps20
  go_wp2_with (first | (go_at_call 45; refine (HA.out _).mono ?_; rintro e w' ⟨rfl, d1, rfl⟩; rw [lay_bw]) | (go_at_call 46; refine (HZ.out _).mono ?_; rintro e w' ⟨rfl, d2, rfl⟩; rw [lay_bw]))
  exact bodyPost_ret (v := .tuple #[(.agg #[.int .i64 (p), .int .i64 (q), .int .i64 (u), .int .i64 (v)]), .int .i64 0]) (by simp [results, Tryz.results20, go_sem]) rfl ⟨rfl, lay_ex _ _⟩
end Go.Proofs.YtjfpgpipbooilaaGreat
/- Places (package place and the reference), sides, limits. -/
namespace Go.Proofs.YtjfpgpipbooilaaGreat
set_option maxHeartbeats 1000000
open Go.RowKit

def lonW (x y : Int) : Bool := decide ((x = -10800000 ∧ y = 10800000) ∨ (-10800000 ≤ x ∧ x < 10800000 ∧ x ≤ y ∧ IntKind.i64.wrap (y - x) < 21600000))
def lonB (x y : Int) : Bool := decide ((x = -10800000 ∧ y = 10800000) ∨ (-10800000 ≤ x ∧ x < 10800000 ∧ x ≤ y ∧ y < x + 21600000))
def plcR (u v x y : Int) : Bool := latB u v && lonB x y
def plcW (u v x y : Int) : Bool := latB u v && lonW x y
def ptB (u x : Int) : Bool := decide (-5400000 ≤ u ∧ u ≤ 5400000 ∧ -10800000 ≤ x ∧ x < 10800000)
theorem ptB_iff {u x : Int} : ptB u x = true ↔ -5400000 ≤ u ∧ u ≤ 5400000 ∧ -10800000 ≤ x ∧ x < 10800000 := by simp [ptB]
theorem lonB_valid {x y : Int} (h : lonB x y = true) : validB x y = true ∧ lonW x y = true := by
  have h' := of_decide_eq_true h
  refine ⟨validB_iff.2 (by omega), decide_eq_true ?_⟩
  rcases h' with h' | ⟨h1, h2, h3, h4⟩
  · exact .inl h'
  · exact .inr ⟨h1, h2, h3, by rw [IntWalk.i64_in _ (by omega)]; omega⟩
theorem pt_plc {u x : Int} (h : ptB u x = true) : plcR u u x x = true ∧ latB u u = true ∧ validB x x = true := by
  have h' := ptB_iff.1 h
  have h1 : latB u u = true := latB_iff.2 (by omega)
  have h2 : lonB x x = true := decide_eq_true (.inr (by omega))
  refine ⟨by unfold plcR; rw [h1, h2]; rfl, h1, (lonB_valid h2).1⟩
theorem plc_lat (x0 y0 : Int) (w : World) :
    Calls Tryz.prog 121 #[(.agg #[.int .i64 (x0), .int .i64 (y0)])] w fun e w' => e = .returned (.bool (latB x0 y0)) ∧ ∃ d, w' = bw w d := by
  refine lay_start ?_
  go_enter Tryz.func121, Tryz.ntmps121
  go_wp2
  all_goals go_ret
  all_goals exact ⟨ret_bool (by rw [Bool.eq_iff_iff]; simp [latB]; try omega), lay_ex _ _⟩
theorem plc_every (w : World) :
    Calls Tryz.prog 190 #[] w fun e w' => e = .returned (.agg #[.int .i64 (-10800000), .int .i64 (10800000)]) ∧ ∃ d, w' = bw w d := by
  refine lay_start ?_
  go_enter Tryz.func190, Tryz.ntmps190
  go_wp2
  exact bodyPost_ret (v := (.agg #[.int .i64 (-10800000), .int .i64 (10800000)])) (by simp [results, Tryz.results190, go_sem]) rfl ⟨rfl, lay_ex _ _⟩
theorem plc_all (x0 y0 : Int) (w : World) :
    Calls Tryz.prog 154 #[(.agg #[.int .i64 (x0), .int .i64 (y0)])] w fun e w' => e = .returned (.bool (decide (x0 = -10800000 ∧ y0 = 10800000))) ∧ ∃ d, w' = bw w d := by
  by_cases h1 : x0 = -10800000
  · subst h1
    by_cases h2 : y0 = 10800000
    · subst h2
      refine lay_start ?_
      go_enter Tryz.func154, Tryz.ntmps154
      go_wp2_with fail
      refine region_bw (by kernel_rfl) (by kernel_rfl) ?_
      repeat (go_big_quiet_step ((first | (go_at_call 190; first | exact bq (plc_every _) (fun d => lay_join _ _ _ d) | exact bq (plc_every _) (fun d => ⟨d, rfl⟩)))))
      refine wpQuiet_nil ?_
      rintro w' ⟨d, rfl⟩
      rw [lay_bw]
      go_wp2_with fail
      go_ret
      exact ⟨ret_bool (by simp), lay_ex _ _⟩
    · have e2 : (y0 == 10800000) = false := beq_eq_false_iff_ne.2 h2
      refine lay_start ?_
      go_enter Tryz.func154, Tryz.ntmps154
      go_wp2_with fail
      refine region_bw (by kernel_rfl) (by kernel_rfl) ?_
      repeat (go_big_quiet_step ((first | (go_at_call 190; first | exact bq (plc_every _) (fun d => lay_join _ _ _ d) | exact bq (plc_every _) (fun d => ⟨d, rfl⟩)))))
      refine wpQuiet_nil ?_
      rintro w' ⟨d, rfl⟩
      rw [lay_bw]
      go_wp2_with fail
      go_ret
      exact ⟨ret_bool (by simp [h2]), lay_ex _ _⟩
  · have e1 : (x0 == -10800000) = false := beq_eq_false_iff_ne.2 h1
    refine lay_start ?_
    go_enter Tryz.func154, Tryz.ntmps154
    go_wp2_with fail
    refine region_bw (by kernel_rfl) (by kernel_rfl) ?_
    repeat (go_big_quiet_step ((first | (go_at_call 190; first | exact bq (plc_every _) (fun d => lay_join _ _ _ d) | exact bq (plc_every _) (fun d => ⟨d, rfl⟩)))))
    refine wpQuiet_nil ?_
    rintro w' ⟨d, rfl⟩
    rw [lay_bw]
    go_wp2_with fail
    go_ret
    exact ⟨ret_bool (by simp [h1]), lay_ex _ _⟩
theorem plc_lon (x y : Int) (w : World) :
    Calls Tryz.prog 122 #[(.agg #[.int .i64 (x), .int .i64 (y)])] w fun e w' => e = .returned (.bool (lonW x y)) ∧ ∃ d, w' = bw w d := by
  have HA := Lib.hid (fun W => plc_all x y W)
  by_cases h : x = -10800000 ∧ y = 10800000
  · rw [decide_eq_true h] at HA
    have e : lonW x y = true := decide_eq_true (.inl h)
    rw [e]
    clear e h
    refine lay_start ?_
    go_enter Tryz.func122, Tryz.ntmps122
    go_wp2_with (go_at_call 154; refine (HA.out _).mono ?_; rintro e w' ⟨rfl, d1, rfl⟩; rw [lay_bw])
    all_goals go_ret
    all_goals exact ⟨rfl, lay_ex _ _⟩
  · rw [decide_eq_false h] at HA
    obtain ⟨z, hz⟩ : ∃ z, IntKind.i64.wrap (y - x) = z := ⟨_, rfl⟩
    have e : lonW x y = decide (-10800000 ≤ x ∧ x < 10800000 ∧ x ≤ y ∧ z < 21600000) := by
      unfold lonW
      rw [decide_eq_decide, hz]
      exact ⟨fun g => g.resolve_left h, .inr⟩
    rw [e]
    clear e h
    refine lay_start ?_
    go_enter Tryz.func122, Tryz.ntmps122
    go_wp2_with (go_at_call 154; refine (HA.out _).mono ?_; rintro e w' ⟨rfl, d1, rfl⟩; rw [lay_bw])
    all_goals go_ret
    all_goals exact ⟨ret_bool (by rw [Bool.eq_iff_iff]; simp; try omega), lay_ex _ _⟩
theorem plc_Valid (u v x y : Int) (w : World) :
    Calls Tryz.prog 73 #[(.agg #[.int .i64 (u), .int .i64 (v), .int .i64 (x), .int .i64 (y)])] w fun e w' => e = .returned (.bool (plcW u v x y)) ∧ ∃ d, w' = bw w d := by
  have HA := Lib.hid (fun W => plc_lat u v W)
  have HB := Lib.hid (fun W => plc_lon x y W)
  unfold plcW
  generalize latB u v = p at *
  generalize lonW x y = q at *
  cases p
  all_goals
    refine lay_start ?_
    go_enter Tryz.func73, Tryz.ntmps73
    go_wp2_with (first | (go_at_call 121; refine (HA.out _).mono ?_; rintro e w' ⟨rfl, d1, rfl⟩; rw [lay_bw]) | (go_at_call 122; refine (HB.out _).mono ?_; rintro e w' ⟨rfl, d2, rfl⟩; rw [lay_bw]))
    all_goals go_ret
    all_goals exact ⟨by simp, lay_ex _ _⟩
theorem r8_Point (u x : Int) (w : World) :
    Calls Tryz.prog 16 #[(.agg #[.int .i64 (u), .int .i64 (x)])] w fun e w' => e = .returned (.bool (ptB u x)) ∧ ∃ d, w' = bw w d := by
  refine lay_start ?_
  go_enter Tryz.func16, Tryz.ntmps16
  go_wp2
  all_goals go_ret
  all_goals exact ⟨ret_bool (by rw [Bool.eq_iff_iff]; simp [ptB]; try omega), lay_ex _ _⟩
end Go.Proofs.YtjfpgpipbooilaaGreat
/- Covers, the program's and the reference's; Pages and Stars. -/
namespace Go.Proofs.YtjfpgpipbooilaaGreat
open Go.RowKit Go.Shelf

end Go.Proofs.YtjfpgpipbooilaaGreat
/- Equal rows of stars, equal lists, equal pages. -/
namespace Go.Proofs.YtjfpgpipbooilaaGreat
open Go.RowKit Go.Shelf

end Go.Proofs.YtjfpgpipbooilaaGreat
/- The law AlmanacMakes. -/
namespace Go.Proofs.YtjfpgpipbooilaaGreat
open Go.RowKit Go.Shelf

theorem NewOk.few17 {lp : List PgV} {ls : List StarV} (k : NewOk lp ls) : Few lp := ⟨by have := k.few; omega, fun p hp => by have := (k.ok p hp).len; omega⟩
theorem tkL_len {lp : List PgV} (h : Few lp) : (tkL lp).length ≤ 1000000 := by
  have h1 := onceS_len ((nmsL lp).map ofB)
  rw [List.length_map] at h1
  have h2 := few_nms h
  unfold tkL; rw [List.length_map]; omega
theorem made_Bodies {w : World} {bk : Nat} {lp : List PgV} {ls : List StarV} {W : World} (h : BkA w bk lp ls W) (k : NewOk lp ls) : Hid (∀ L, Calls Tryz.prog 75 #[.pointer (some ⟨bk, 0, none⟩)] (lay W L) (StrOwn (lay W L) ([ariesS] ++ tkL lp ++ ls.map StarV.s))) := by
  obtain ⟨vd, vp, vs, h1, h2⟩ := h.open k
  exact Lib.hid (fun L => alm_Bodies bk vd vp vs ls (tkL lp) (lay W L) (h1.bk.lay L) (h2.lay L) (fun L' => alm_tracked bk vd vp vs lp _ ((h1.bk.lay L).lay L') ((h1.pgs.lay L).lay L') k.few17) (by have := (catB_iff.1 k.cat).len; omega) (tkL_len k.few17))
end Go.Proofs.YtjfpgpipbooilaaGreat
/- Candidates: what they are. -/
namespace Go.Proofs.YtjfpgpipbooilaaGreat
open Go.RowKit Go.Shelf

structure SeenV where
  s : ByteArray
  h0 : Int
  h1 : Int
  z0 : Int
  z1 : Int
def seenR : RecT SeenV := { E := 46, S := 42, k := 5, bytes := 48, enc := fun x => [.string x.s, .int .i64 x.h0, .int .i64 x.h1, .int .i64 x.z0, .int .i64 x.z1], wf := fun x => x.s.size ≤ 9223372036854775807 }
theorem info_seen : (Tryz.prog.info? 46).map (fun i => (i.zero.map (fun z => z.cells.size), i.size, i.bytes)) = some (some 5, 5, 48) := by kernel_rfl
theorem seenOk : RecOk seenR where
  len _ := rfl
  one x u hu := by
    simp only [seenR, List.mem_cons, List.not_mem_nil, or_false] at hu
    rcases hu with rfl | rfl | rfl | rfl | rfl <;> rfl
  pos := by decide
  und := Tryz.underlying42
  info := recInfo info_seen
  small := by decide
def RowE {α : Type} (R : RecT α) (W : World) (l : List α) (e : Ending) (w' : World) : Prop := ∃ v d, e = .returned (.tuple #[v, .int .i64 0]) ∧ w' = bw W d ∧ OwG R (bw W d) W.heap.size v l
def nmL (lp : List PgV) (ls : List StarV) : List ByteArray := [ariesS] ++ tkL lp ++ ls.map StarV.s
noncomputable def cnd1 (lp : List PgV) (ls : List StarV) (a b u v x y : Int) (s : ByteArray) : List SeenV :=
  if isA s = true then [] else if (whR lp ls s a b).2 = 0 then
    [⟨s, alL u v (whR lp ls s a b).1.c (whR lp ls s a b).1.d ((whR lp ls s a b).1.a + x) ((whR lp ls s a b).1.b + y), alH u v (whR lp ls s a b).1.c (whR lp ls s a b).1.d ((whR lp ls s a b).1.a + x) ((whR lp ls s a b).1.b + y),
      (azF u v (whR lp ls s a b).1.c (whR lp ls s a b).1.d ((whR lp ls s a b).1.a + x) ((whR lp ls s a b).1.b + y)).1, (azF u v (whR lp ls s a b).1.c (whR lp ls s a b).1.d ((whR lp ls s a b).1.a + x) ((whR lp ls s a b).1.b + y)).2⟩] else []
noncomputable def cndL (lp : List PgV) (ls : List StarV) (a b u v x y : Int) : List SeenV := (nmL lp ls).flatMap (cnd1 lp ls a b u v x y)
variable {lp : List PgV} {ls : List StarV} {a b u v x y : Int} {s : ByteArray}
theorem isA_aries : isA ariesS = true := by unfold isA; rw [ByteArray.toList_eq]; rfl
theorem known_nm (h : s ∈ nmL lp ls) : knownB lp ls s = true := by
  unfold nmL at h
  unfold knownB
  rw [List.mem_append, List.mem_append, List.mem_singleton, List.mem_map] at h
  rcases h with (rfl | h) | ⟨z, hz, rfl⟩
  · rw [isA_aries]; rfl
  · rw [(Lib.containsS_iff _ _).2 h, Bool.or_true]
  · have : decide (0 ≤ fndS ls z.s) = true := by
      unfold fndS
      rw [idxR_any, List.any_eq_true]
      exact ⟨z, hz, by simp [nmB]⟩
    rw [this]; simp
theorem whR_nm (h : s ∈ nmL lp ls) (ht : timB a b = true) (hd : b - a < 86400000) : (whR lp ls s a b).2 = 0 ∨ (whR lp ls s a b).2 = 20 := by
  have hk := known_nm h
  cases whW lp ls s a b with
  | bad k => rw [k] at ht; cases ht
  | name t k => rw [k] at hk; cases hk
  | wide t k d => omega
  | aries t d k => rw [whR_aries t d k]; exact .inl rfl
  | star i x t d k f g e => rw [whR_star t d k f e]; exact .inl rfl
  | body t d k f g c => rw [whR_body t d k g c]; exact bodyR_e
theorem lonB_bd (h : lonB x y = true) : -10800000 ≤ x ∧ x ≤ y ∧ y ≤ 32400000 := by
  have := of_decide_eq_true h
  omega
structure CndOk (lp : List PgV) (ls : List StarV) (a b u v x y : Int) (s : ByteArray) : Prop where
  vg : validB (whR lp ls s a b).1.a (whR lp ls s a b).1.b = true
  vx : validB x y = true
  vs : validB ((whR lp ls s a b).1.a + x) ((whR lp ls s a b).1.b + y) = true
  tr : triB u v (whR lp ls s a b).1.c (whR lp ls s a b).1.d ((whR lp ls s a b).1.a + x) ((whR lp ls s a b).1.b + y) = true
theorem cnd_ok (k : NewOk lp ls) (hp : plcR u v x y = true) (h0 : (whR lp ls s a b).2 = 0) : CndOk lp ls a b u v x y s := by
  unfold plcR at hp
  simp only [Bool.and_eq_true] at hp
  have r := whR_right k.ok k.cat h0
  have d := whR_dec h0
  have f := whR_tf k.ok h0
  have l := lonB_bd hp.2
  have vs : validB ((whR lp ls s a b).1.a + x) ((whR lp ls s a b).1.b + y) = true := by
    rw [validB_iff]
    have h1 := f.h0
    have h2 := f.h1
    have h3 := f.h2
    have h4 := f.h3
    omega
  refine ⟨r.1, (lonB_valid hp.2).1, vs, ?_⟩
  unfold triB
  rw [hp.1, vs, latB_iff.2 ⟨(validB_iff.1 r.2.2.2.1).1, d.1, d.2⟩]
  rfl
theorem cndL_len : (cndL lp ls a b u v x y).length ≤ (nmL lp ls).length := by
  unfold cndL
  induction nmL lp ls with
  | nil => simp
  | cons s l ih =>
    rw [List.flatMap_cons, List.length_append, List.length_cons]
    have : (cnd1 lp ls a b u v x y s).length ≤ 1 := by unfold cnd1; split; simp; split <;> simp
    omega
theorem cnd_bd (k : NewOk lp ls) (hp : plcR u v x y = true) : ∀ z ∈ cndL lp ls a b u v x y, (-5400000 ≤ z.h0 ∧ z.h0 ≤ z.h1 ∧ z.h1 ≤ 5400000) ∧ (0 ≤ z.z0 ∧ z.z0 ≤ z.z1 ∧ z.z1 ≤ 43200000) := by
  intro z hz
  obtain ⟨s, hs, hz⟩ := List.mem_flatMap.1 hz
  unfold cnd1 at hz
  split at hz
  · exact absurd hz (List.not_mem_nil)
  · split at hz
    · rename_i h0
      rw [List.mem_singleton.1 hz]
      have o := cnd_ok k hp h0
      exact ⟨(al_bd o.tr).2, brF_bd _ _ _ _⟩
    · exact absurd hz (List.not_mem_nil)
theorem cnd_take {j : Nat} (h : (nmL lp ls)[j]? = some s) : ((nmL lp ls).take (j + 1)).flatMap (cnd1 lp ls a b u v x y) = ((nmL lp ls).take j).flatMap (cnd1 lp ls a b u v x y) ++ cnd1 lp ls a b u v x y s := by
  obtain ⟨hk, rfl⟩ := List.getElem?_eq_some_iff.1 h
  rw [List.take_succ_eq_append_getElem hk, List.flatMap_append]
  simp
def skyL (l : List SeenV) (n : Int) : List SeenV := l.filter fun z => decide (n ≤ z.h1)
def idB (h0 h1 z0 z1 : Int) (z : SeenV) : Bool := agrB z.z0 z.z1 z0 z1 && (decide (z.h0 ≤ h1) && decide (h0 ≤ z.h1))
def idL (l : List SeenV) (h0 h1 z0 z1 : Int) : List ByteArray := (l.filter (idB h0 h1 z0 z1)).map SeenV.s
theorem agr_wide {p q c d n : Int} (hn : 0 ≤ n) (hcd : c ≤ d) (h : agrB p q c d = true) : agrB p q (c - n) (d + n) = true := by
  unfold agrB at *
  rw [Bool.or_eq_true, decide_eq_true_eq, decide_eq_true_eq] at *
  omega
end Go.Proofs.YtjfpgpipbooilaaGreat
/- finder: given, latitude. -/
namespace Go.Proofs.YtjfpgpipbooilaaGreat
open Go.RowKit Go.Shelf

set_option maxRecDepth 100000 in
theorem fn_given (bk : Nat) (a b u v x y : Int) (w : World) (ht : timB a b = true) (hp : plcW u v x y = true) :
    Calls Tryz.prog 28 #[.pointer (some ⟨bk, 0, none⟩), (.agg #[.int .i64 (a), .int .i64 (b)]), (.agg #[.int .i64 (u), .int .i64 (v), .int .i64 (x), .int .i64 (y)])] w fun e w' => e = .returned (.int .i64 0) ∧ ∃ d, w' = bw w d := by
  have HC := Lib.hid (fun W => clock_Valid a b W)
  have HP := Lib.hid (fun W => plc_Valid u v x y W)
  rw [ht] at HC
  rw [hp] at HP
  clear ht hp
  refine lay_start ?_
  go_enter Tryz.func28, Tryz.ntmps28
  go_wp2_with (first | (go_at_call 36; refine (HC.out _).mono ?_; rintro e w' ⟨rfl, d1, rfl⟩; rw [lay_bw]) | (go_at_call 73; refine (HP.out _).mono ?_; rintro e w' ⟨rfl, d2, rfl⟩; rw [lay_bw]))
  go_ret
  exact ⟨rfl, lay_ex _ _⟩
theorem fn_latitude (x0 y0 : Int) (w : World) :
    Calls Tryz.prog 29 #[(.agg #[.int .i64 (x0), .int .i64 (y0)])] w fun e w' => e = .returned (.bool (latB x0 y0)) ∧ ∃ d, w' = bw w d := by
  refine lay_start ?_
  go_enter Tryz.func29, Tryz.ntmps29
  go_wp2_with (go_at_call 30; refine (angle_Valid _ _ _).mono ?_; rintro e w' ⟨rfl, d, rfl⟩)
  all_goals go_ret
  all_goals exact ⟨ret_bool (by first | exact lat_w1 ‹_› ‹_› | exact lat_w2 ‹_› | exact lat_w3 ‹_›), lay_ex _ _⟩
end Go.Proofs.YtjfpgpipbooilaaGreat

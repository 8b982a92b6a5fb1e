/- Contracts and plain laws, several texts in one: Lst; Prt; Hz0; Hs2; Rq; Rs -/
import Derived.Test.YtnnmfdeeicpdlaaGreatProg
import Derived.WalkKit
import Derived.WalkSpells
import Derived.WalkLawsBesides
import Derived.Lib.Hide
import Derived.BigQuiet
import Derived.Test.YtnnmfdeeicpdlaaGreatSAA
import Derived.Test.YtnnmfdeeicpdlaaGreatSAF
import Derived.Test.YtnnmfdeeicpdlaaGreatSAI
import Derived.Test.YtnnmfdeeicpdlaaGreatSAW
/- The walk of the law AlmanacStars. -/
namespace Go.Proofs.YtnnmfdeeicpdlaaGreat
open Go.RowKit Go.Shelf

def rgtB (a b c d e f g h : Int) : Prop := validB a b = true ∧ turnLo a b = a ∧ turnHi a b = b ∧ validB c d = true ∧ validB e f = true ∧ validB g h = true
theorem turn_again {x y : Int} (h : x ≤ y) : turnLo (turnLo x y) (turnHi x y) = turnLo x y ∧ turnHi (turnLo x y) (turnHi x y) = turnHi x y := by
  unfold turnLo turnHi
  split
  · constructor <;> rfl
  · constructor
    · rw [if_neg (by omega)]; omega
    · rw [if_neg (by omega)]; omega
theorem dc_valid {n : Int} (h0 : -54000 ≤ n) (h1 : n ≤ 54000) : validB (dcL n) (dcH n) = true := by
  unfold dcL dcH
  rw [mx_eq, mn_eq, validB_iff]; omega
theorem star_right {a b sha dec : Int} (h : a ≤ b) (d0 : -54000 ≤ dec) (d1 : dec ≤ 54000) : rgtB (sgL a b sha) (sgH a b sha) (dcL dec) (dcH dec) 0 0 0 0 := by
  have b1 := ag_bd h
  have hx : agL a b + (100 * sha - 50) ≤ agH a b + (100 * sha + 50) := by omega
  exact ⟨turn_valid hx, (turn_again hx).1, (turn_again hx).2, dc_valid d0 d1, by decide, by decide⟩
end Go.Proofs.YtnnmfdeeicpdlaaGreat
/- A time has the places of its instants: the plain law. -/
namespace Go.Proofs.YtnnmfdeeicpdlaaGreat
open Go.RowKit Go.Shelf

def Dia (x0 y0 x1 y1 : Int) : Prop := 21600000 ≤ y1 - x1 ∨ (y0 - x0 < 21600000 ∧ (x0 - x1) % 21600000 + (y0 - x0) ≤ y1 - x1)
theorem Dia.sub {x0 y0 x1 y1 : Int} (h1 : x1 ≤ x0) (_ : x0 ≤ y0) (h3 : y0 ≤ y1) : Dia x0 y0 x1 y1 := by unfold Dia; omega
theorem Dia.turnR {x0 y0 x1 y1 : Int} (h : Dia x0 y0 x1 y1) : Dia x0 y0 (turnLo x1 y1) (turnHi x1 y1) := by
  unfold Dia at *
  unfold turnLo turnHi
  by_cases k : 21600000 ≤ y1 - x1
  · rw [if_pos k, if_pos k]; omega
  · rw [if_neg k, if_neg k]; omega
theorem Dia.add {x0 y0 x1 y1 c d : Int} (h : Dia x0 y0 x1 y1) (hc : c ≤ d) : Dia (x0 + c) (y0 + d) (x1 + c) (y1 + d) := by
  unfold Dia at *
  rw [show x0 + c - (x1 + c) = x0 - x1 by omega]
  omega
theorem Dia.monoR {x0 y0 x1 y1 x2 y2 : Int} (h : Dia x0 y0 x1 y1) (h1 : x2 ≤ x1) (h2 : y1 ≤ y2) : Dia x0 y0 x2 y2 := by unfold Dia at *; omega
theorem Dia.shiftR {x0 y0 x1 y1 x2 y2 : Int} (h : Dia x0 y0 x1 y1) (h1 : (x2 - x1) % 21600000 = 0) (h2 : y2 - x2 = y1 - x1) : Dia x0 y0 x2 y2 := by
  unfold Dia at *
  have : (x0 - x2) % 21600000 = (x0 - x1) % 21600000 := by omega
  rw [this]; omega
theorem sgn_mod (n : Int) : (sgnI n - n) % 21600000 = 0 := by unfold sgnI; split <;> omega
theorem Dia.joinL {x0 y0 a b c d : Int} (h : Dia x0 y0 a b) : Dia x0 y0 (turnLo (hulL a c) (hulH a b c d)) (turnHi (hulL a c) (hulH a b c d)) := by
  refine Dia.turnR (h.monoR ?_ ?_)
  · unfold hulL; rw [mn_eq]; omega
  · unfold hulH; rw [mx_eq]; omega
theorem Dia.joinR {x0 y0 a b c d : Int} (h : Dia x0 y0 c d) : Dia x0 y0 (turnLo (hulL a c) (hulH a b c d)) (turnHi (hulL a c) (hulH a b c d)) := by
  have hs := sgn_mod (c - a)
  refine Dia.turnR ((h.shiftR (x2 := a + sgnI (c - a)) (y2 := a + sgnI (c - a) + d - c) ?_ ?_).monoR ?_ ?_)
  · rw [show a + sgnI (c - a) - c = sgnI (c - a) - (c - a) by omega]; exact hs
  · omega
  · unfold hulL; rw [mn_eq]; omega
  · unfold hulH; rw [mx_eq]; omega
structure PartOk (x g : GeoV) : Prop where
  gha : Dia x.a x.b g.a g.b
  dec : g.c ≤ x.c ∧ x.d ≤ g.d
  semi : g.e ≤ x.e ∧ x.f ≤ g.f
  par : g.g ≤ x.g ∧ x.h ≤ g.h
theorem ceil_mono {K V W : Int} (hK : 0 < K) (h : V ≤ W) : (if 0 < V % K then V / K + 1 else V / K) ≤ (if 0 < W % K then W / K + 1 else W / K) := by
  have h1 := Int.ediv_le_ediv hK h
  have e1 := Int.emod_add_mul_ediv V K
  have e2 := Int.emod_add_mul_ediv W K
  by_cases e : V / K = W / K
  · rw [e] at e1 ⊢
    split <;> split <;> omega
  · split <;> split <;> omega
theorem ariU_mono {a b : Int} (h : a ≤ b) : ariU a ≤ ariU b := by
  have h1 : ariV a ≤ ariV b := by unfold ariV; omega
  have := ceil_mono (K := 86400000000000) (by decide) h1
  unfold ariU ariF ariR
  split at this <;> split at this <;> (rename_i p q; simp only [p, q, if_true, if_false]; omega)
theorem PartOk.left {x g h : GeoV} (k : PartOk x g) : PartOk x (joinV g h) := by
  obtain ⟨k1, k2, k3, k4⟩ := k
  refine ⟨k1.joinL, ?_, ?_, ?_⟩ <;> (unfold joinV; dsimp only; rw [mn_eq, mx_eq]; omega)
theorem PartOk.right {x g h : GeoV} (k : PartOk x h) : PartOk x (joinV g h) := by
  obtain ⟨k1, k2, k3, k4⟩ := k
  refine ⟨k1.joinR, ?_, ?_, ?_⟩ <;> (unfold joinV; dsimp only; rw [mn_eq, mx_eq]; omega)
theorem valid_00 : validB 0 0 = true := by decide
def rgtG (g : GeoV) : Prop := rgtB g.a g.b g.c g.d g.e g.f g.g g.h
theorem sz_valid {n : Int} (h0 : 0 ≤ n) (h1 : n ≤ 1000) : validB (szL n) (szH n) = true := by
  unfold szL szH
  rw [mx_eq, mx_eq, validB_iff]; omega
theorem dcO_valid {t : TrkV} (ht : trkB t = true) (lo hi : Int) : validB (mx (decO t lo hi).1 (-5400000)) (mn (decO t lo hi).2 5400000) = true := by
  have h := validB_iff.1 (decO_valid (gd_of ht) lo hi)
  have m := dec_meet (gd_of ht) lo hi
  rw [mx_eq, mn_eq] at m ⊢
  rw [validB_iff]; omega
theorem span_right {t : TrkV} (ht : trkB t = true) (lo hi : Int) : rgtG (spanV t lo hi) := by
  obtain ⟨p0, p1, q0, q1⟩ := szOk_of ht
  have g := ghaO_le ht lo hi
  exact ⟨turn_valid g, (turn_again g).1, (turn_again g).2, dcO_valid ht lo hi, sz_valid p0 p1, sz_valid q0 q1⟩
theorem hull_valid {a b c d : Int} (h : validB a b = true) (k : validB c d = true) : validB (mn a c) (mx b d) = true := by
  rw [validB_iff] at *
  rw [mn_eq, mx_eq]; omega
theorem join_right {x y : GeoV} (h : rgtG x) (k : rgtG y) (hx : TF x.a x.b) (hy : TF y.a y.b) : rgtG (joinV x y) := by
  obtain ⟨_, _, _, h4, h5, h6⟩ := h
  obtain ⟨_, _, _, k4, k5, k6⟩ := k
  have g := (validB_iff.1 (hul_valid hx hy)).1
  exact ⟨turn_valid g, (turn_again g).1, (turn_again g).2, hull_valid h4 k4, hull_valid h5 k5, hull_valid h6 k6⟩
theorem bodyR_right {lp : List PgV} {s : ByteArray} {a b : Int} (hok : ∀ p ∈ lp, PgOk p) (h : (bodyR lp s a b).2 = 0) : rgtG (bodyR lp s a b).1 := by
  cases h1 : trkAt lp s (a / 86400000) with
  | none => rw [bodyR_no h1] at h; cases h
  | some t =>
    have o1 := trkAt_ok hok h1
    by_cases e : a / 86400000 = b / 86400000
    · rw [bodyR_one h1 e]; exact span_right o1 _ _
    · cases h2 : trkAt lp s (b / 86400000) with
      | none => rw [bodyR_no2 h1 e h2] at h; cases h
      | some u =>
        have o2 := trkAt_ok hok h2
        rw [bodyR_two h1 e h2]
        exact join_right (span_right o1 _ _) (span_right o2 _ _) (tf_turn (ghaO_le o1 _ _)) (tf_turn (ghaO_le o2 _ _))
theorem whR_right {lp : List PgV} {ls : List StarV} {s : ByteArray} {a b : Int} (hok : ∀ p ∈ lp, PgOk p) (hc : catB ls = true) (h : (whR lp ls s a b).2 = 0) : rgtG (whR lp ls s a b).1 := by
  cases whW lp ls s a b with
  | bad k => rw [whR_bad k] at h; cases h
  | name t k => rw [whR_name t k] at h; cases h
  | wide t k d => rw [whR_wide t k d] at h; cases h
  | aries t d k =>
    rw [whR_aries t d k]
    have g := ariF_le (timB_iff.1 t).1
    exact ⟨turn_valid g, (turn_again g).1, (turn_again g).2, valid_00, valid_00, valid_00⟩
  | star i x t d k f g e =>
    rw [whR_star t d k f e]
    obtain ⟨cn, cnum, cf⟩ := (catB_iff.1 hc).ok i x g
    obtain ⟨-, ⟨y0, y1⟩, -, -⟩ : (0 ≤ x.sha ∧ x.sha ≤ 215999) ∧ (-54000 ≤ x.dec ∧ x.dec ≤ 54000) ∧ -20 ≤ x.mag ∧ x.mag ≤ 150 := by simpa [numB] using cnum
    exact star_right (timB_iff.1 t).1 y0 y1
  | body t d k f g c =>
    rw [whR_body t d k g c] at h ⊢
    exact bodyR_right hok h
end Go.Proofs.YtnnmfdeeicpdlaaGreat
/- Altitudes of arcs: a part's altitude lies within the whole's. Plain Lean. -/
namespace Go.Proofs.YtnnmfdeeicpdlaaGreat
open Go.RowKit Go.Shelf

theorem metB_sh (lo hi n k : Int) : metB (lo + 21600000 * k) (hi + 21600000 * k) n = metB lo hi n := by
  unfold metB
  rw [decide_eq_decide]
  omega
theorem enc_turn (lo hi k : Int) : encL (lo + 21600000 * k) (hi + 21600000 * k) = encL lo hi ∧ encH (lo + 21600000 * k) (hi + 21600000 * k) = encH lo hi := by
  rw [encL_at, encL_at, encH_at, encH_at, metB_sh, metB_sh, (b_shift lo k).1, (b_shift lo k).2, (b_shift hi k).1, (b_shift hi k).2]
  exact ⟨rfl, rfl⟩
theorem enc_dia {x0 y0 x1 y1 : Int} (h : x0 ≤ y0) (d : Dia x0 y0 x1 y1) : encL x1 y1 ≤ encL x0 y0 ∧ encH x0 y0 ≤ encH x1 y1 := by
  have e := @enc_in x0 y0
  rcases d with d | ⟨d1, d2⟩
  · have m1 : metB x1 y1 16200000 = true := by unfold metB; rw [decide_eq_true_eq]; omega
    have m2 : metB x1 y1 5400000 = true := by unfold metB; rw [decide_eq_true_eq]; omega
    rw [encL_at x1, encH_at x1, m1, m2, if_pos rfl, if_pos rfl]
    omega
  · have t := enc_turn x0 y0 (-((x0 - x1) / 21600000))
    have p := enc_part (lo := x1) (hi := y1) (x := x0 + 21600000 * (-((x0 - x1) / 21600000))) (y := y0 + 21600000 * (-((x0 - x1) / 21600000))) (by omega) (by omega) (by omega)
    rw [t.1, t.2] at p
    exact p
theorem cos_dia {x0 y0 x1 y1 : Int} (h : x0 ≤ y0) (d : Dia x0 y0 x1 y1) : cosL x1 y1 ≤ cosL x0 y0 ∧ cosH x0 y0 ≤ cosH x1 y1 := by
  unfold cosL cosH
  exact enc_dia (by omega) (d.add (Int.le_refl _))
theorem alt_part {a0 a1 b0 b1 c0 c1 p0 p1 q0 q1 r0 r1 : Int} (h0 : a0 ≤ p0) (h : p0 ≤ p1) (h1 : p1 ≤ a1) (g0 : b0 ≤ q0) (g : q0 ≤ q1) (g1 : q1 ≤ b1) (hc : r0 ≤ r1) (d : Dia r0 r1 c0 c1) :
    altS0 a0 a1 b0 b1 c0 c1 ≤ altS0 p0 p1 q0 q1 r0 r1 ∧ altS1 p0 p1 q0 q1 r0 r1 ≤ altS1 a0 a1 b0 b1 c0 c1 := by
  have e1 := enc_part h0 h h1
  have e2 := enc_part g0 g g1
  have c1' : cosL a0 a1 ≤ cosL p0 p1 ∧ cosH p0 p1 ≤ cosH a0 a1 := by unfold cosL cosH; exact enc_part (by omega) (by omega) (by omega)
  have c2' : cosL b0 b1 ≤ cosL q0 q1 ∧ cosH q0 q1 ≤ cosH b0 b1 := by unfold cosL cosH; exact enc_part (by omega) (by omega) (by omega)
  have c3' := cos_dia hc d
  have m1 := mul_part e1.1 enc_in.2.1 e1.2 e2.1 enc_in.2.1 e2.2
  have m2 : ccL a0 a1 b0 b1 ≤ ccL p0 p1 q0 q1 ∧ ccH p0 p1 q0 q1 ≤ ccH a0 a1 b0 b1 := mul_part c1'.1 (cos_in2 _ _).2.1 c1'.2 c2'.1 (cos_in2 _ _).2.1 c2'.2
  have m3 := mul_part m2.1 (cc_in _ _ _ _).2.1 m2.2 c3'.1 (cos_in2 _ _).2.1 c3'.2
  unfold altS0 altS1 ssL ssH c3L c3H
  omega
theorem as_part {L H l h : Int} (hE : asE L H = 0) (hl : l ≤ L) (hh : H ≤ h) (hf : fxB l h = true) : asE l h = 0 ∧ asL l h ≤ asL L H ∧ asH L H ≤ asH l h ∧ -5400000 ≤ asL l h ∧ asH l h ≤ 5400000 := by
  have hE2 : asE l h = 0 := by
    have hE' := hE
    rw [asE_at] at hE' ⊢
    rw [hf, if_neg (by decide)]
    rw [mn_eq, mx_eq] at *
    split at hE'
    · omega
    · split at hE' <;> split <;> omega
  have m1 := asnI_mono (v := mx l (-1073741824)) (u := mx L (-1073741824)) (by rw [mx_eq]; omega) (by rw [mx_eq, mx_eq]; omega)
  have m2 := asnI_mono (v := -(mn h 1073741824)) (u := -(mn H 1073741824)) (by rw [mn_eq]; omega) (by rw [mn_eq, mn_eq]; omega)
  have i1 := asnI_in (v := mx l (-1073741824)) (by rw [mx_eq]; omega)
  have i2 := asnI_in (v := -(mn h 1073741824)) (by rw [mn_eq]; omega)
  unfold asL asH
  rw [if_pos hE, if_pos hE, if_pos hE2, if_pos hE2]
  omega
theorem alt_someG {a0 a1 b0 b1 c0 c1 : Int} (ha : latB a0 a1 = true) (hb : latB b0 b1 = true) (hc : c0 ≤ c1) :
    asE (altS0 a0 a1 b0 b1 c0 c1) (altS1 a0 a1 b0 b1 c0 c1) = 0 ∧ -5400000 ≤ asL (altS0 a0 a1 b0 b1 c0 c1) (altS1 a0 a1 b0 b1 c0 c1) ∧ asL (altS0 a0 a1 b0 b1 c0 c1) (altS1 a0 a1 b0 b1 c0 c1) ≤ asH (altS0 a0 a1 b0 b1 c0 c1) (altS1 a0 a1 b0 b1 c0 c1) ∧ asH (altS0 a0 a1 b0 b1 c0 c1) (altS1 a0 a1 b0 b1 c0 c1) ≤ 5400000 := by
  obtain ⟨u1, u2, u3⟩ := latB_iff.1 ha
  obtain ⟨v1, v2, v3⟩ := latB_iff.1 hb
  have p := alt_some (lat := a0) (dec := b0) (lha := c0) u2 (by omega) v2 (by omega)
  have q := alt_part (Int.le_refl a0) (Int.le_refl a0) u1 (Int.le_refl b0) (Int.le_refl b0) v1 (Int.le_refl c0) (Dia.sub (x1 := c0) (y1 := c1) (Int.le_refl c0) (Int.le_refl c0) hc)
  have r := as_part p.1 q.1 q.2 (alt_fx _ _ _ _ _ _)
  omega
noncomputable def hzS0 (lp : List PgV) (ls : List StarV) (s : ByteArray) (a b u v x y : Int) : Int := altS0 u v (whR lp ls s a b).1.c (whR lp ls s a b).1.d (lhaL lp ls s a b x y) (lhaH lp ls s a b x y)
noncomputable def hzS1 (lp : List PgV) (ls : List StarV) (s : ByteArray) (a b u v x y : Int) : Int := altS1 u v (whR lp ls s a b).1.c (whR lp ls s a b).1.d (lhaL lp ls s a b x y) (lhaH lp ls s a b x y)
noncomputable def hzL (lp : List PgV) (ls : List StarV) (s : ByteArray) (a b u v x y : Int) : Int := if lhaE lp ls s a b x y = 0 then asL (hzS0 lp ls s a b u v x y) (hzS1 lp ls s a b u v x y) else 0
noncomputable def hzH (lp : List PgV) (ls : List StarV) (s : ByteArray) (a b u v x y : Int) : Int := if lhaE lp ls s a b x y = 0 then asH (hzS0 lp ls s a b u v x y) (hzS1 lp ls s a b u v x y) else 0
theorem bodyR_dec {lp : List PgV} {s : ByteArray} {a b : Int} (h : (bodyR lp s a b).2 = 0) : -5400000 ≤ (bodyR lp s a b).1.c ∧ (bodyR lp s a b).1.d ≤ 5400000 := by
  cases h1 : trkAt lp s (a / 86400000) with
  | none => rw [bodyR_no h1] at h; cases h
  | some t =>
    by_cases e : a / 86400000 = b / 86400000
    · rw [bodyR_one h1 e]; unfold spanV; simp only; rw [mx_eq, mn_eq]; omega
    · cases h2 : trkAt lp s (b / 86400000) with
      | none => rw [bodyR_no2 h1 e h2] at h; cases h
      | some u => rw [bodyR_two h1 e h2]; unfold joinV spanV; simp only; rw [mx_eq, mx_eq, mn_eq, mn_eq, mn_eq, mx_eq]; omega
theorem whR_dec {lp : List PgV} {ls : List StarV} {s : ByteArray} {a b : Int} (h : (whR lp ls s a b).2 = 0) : -5400000 ≤ (whR lp ls s a b).1.c ∧ (whR lp ls s a b).1.d ≤ 5400000 := by
  cases whW lp ls s a b with
  | bad k => rw [whR_bad k] at h; cases h
  | name t k => rw [whR_name t k] at h; cases h
  | wide t k d => rw [whR_wide t k d] at h; cases h
  | aries t d k => rw [whR_aries t d k]; simp only; omega
  | star i x t d k f g e => rw [whR_star t d k f e]; simp only; unfold dcL dcH; rw [mx_eq, mn_eq]; omega
  | body t d k f g c => rw [whR_body t d k g c] at h ⊢; exact bodyR_dec h
variable {lp : List PgV} {ls : List StarV} {s : ByteArray}
theorem lhaE_z {a b x y : Int} : lhaE lp ls s a b x y = 0 ↔ timB a b = true ∧ validB x y = true ∧ (whR lp ls s a b).2 = 0 := by
  unfold lhaE
  cases timB a b
  · simp
  · cases validB x y
    · simp
    · simp
theorem lha_is {a b x y : Int} (h : lhaE lp ls s a b x y = 0) : lhaL lp ls s a b x y = turnLo ((whR lp ls s a b).1.a + turnLo x y) ((whR lp ls s a b).1.b + turnHi x y) ∧ lhaH lp ls s a b x y = turnHi ((whR lp ls s a b).1.a + turnLo x y) ((whR lp ls s a b).1.b + turnHi x y) := by
  unfold lhaL lhaH
  rw [if_pos h, if_pos h]
  exact ⟨rfl, rfl⟩
structure HzOk (lp : List PgV) (ls : List StarV) (s : ByteArray) (a b u v x y : Int) : Prop where
  dec : latB (whR lp ls s a b).1.c (whR lp ls s a b).1.d = true
  lha : validB (lhaL lp ls s a b x y) (lhaH lp ls s a b x y) = true
  asn : asE (hzS0 lp ls s a b u v x y) (hzS1 lp ls s a b u v x y) = 0
  lo : -5400000 ≤ hzL lp ls s a b u v x y
  le : hzL lp ls s a b u v x y ≤ hzH lp ls s a b u v x y
  hi : hzH lp ls s a b u v x y ≤ 5400000
theorem hz_ok {a b u v x y : Int} (k : NewOk lp ls) (hu : latB u v = true) (h : lhaE lp ls s a b x y = 0) : HzOk lp ls s a b u v x y := by
  obtain ⟨t, vx, w0⟩ := lhaE_z.1 h
  have r := whR_right k.ok k.cat w0
  have d := whR_dec w0
  have f := whR_tf k.ok w0
  obtain ⟨e1, e2⟩ := lha_is h
  have tb := turn_bd (validB_iff.1 vx).1
  have hd : latB (whR lp ls s a b).1.c (whR lp ls s a b).1.d = true := latB_iff.2 ⟨(validB_iff.1 r.2.2.2.1).1, d.1, d.2⟩
  have hl : validB (lhaL lp ls s a b x y) (lhaH lp ls s a b x y) = true := by rw [e1, e2]; exact turn_valid (by have := f.h2; omega)
  have q := alt_someG hu hd (validB_iff.1 hl).1
  refine ⟨hd, hl, q.1, ?_, ?_, ?_⟩
  · unfold hzL; rw [if_pos h]; exact q.2.1
  · unfold hzL hzH; rw [if_pos h, if_pos h]; exact q.2.2.1
  · unfold hzH; rw [if_pos h]; exact q.2.2.2
end Go.Proofs.YtnnmfdeeicpdlaaGreat
/- A star over the equator: where its side changes. No program in sight. -/
namespace Go.Proofs.YtnnmfdeeicpdlaaGreat
open Go.RowKit

theorem b_reflQ {n : Int} (h0 : -185000 ≤ n) (h1 : n ≤ 5400000) : bLo (10800000 - n) = bLo n ∧ bHi (10800000 - n) = bHi n := by
  by_cases h : 0 ≤ n
  · have e1 := b_one h h1
    have e2 := b_two (n := 10800000 - n) (by omega) (by omega)
    rw [show (10800000 - (10800000 - n)).toNat = n.toNat by omega] at e2
    exact ⟨by rw [e1.1, e2.1], by rw [e1.2, e2.2]⟩
  · have e1 := b_four (n := n) (by omega) (by omega)
    have e2 := b_three (n := 10800000 - n) (by omega) (by omega)
    rw [show (10800000 - n - 10800000).toNat = (-n).toNat by omega] at e2
    exact ⟨by rw [e1.1, e2.1], by rw [e1.2, e2.2]⟩
theorem enc_rise {P Q : Int} (h0 : -5400000 < P) (h : P ≤ Q) (h1 : Q < 5400000) : encL P Q = bLo P ∧ encH P Q = bHi Q := by
  have m1 : metB P Q 16200000 = false := by unfold metB; rw [decide_eq_false_iff_not]; omega
  have m2 : metB P Q 5400000 = false := by unfold metB; rw [decide_eq_false_iff_not]; omega
  have hb := b_up (a := P) (b := Q) (by omega) h (by omega)
  rw [encL_at, encH_at, m1, m2, if_neg Bool.false_ne_true, if_neg Bool.false_ne_true, mn_eq, mx_eq]
  omega
theorem enc_set {P Q : Int} (h0 : 5400000 < P) (h : P ≤ Q) (h1 : Q < 16200000) : encL P Q = bLo Q ∧ encH P Q = bHi P := by
  have m1 : metB P Q 16200000 = false := by unfold metB; rw [decide_eq_false_iff_not]; omega
  have m2 : metB P Q 5400000 = false := by unfold metB; rw [decide_eq_false_iff_not]; omega
  have hb := b_down (a := P) (b := Q) (by omega) h (by omega)
  rw [encL_at, encH_at, m1, m2, if_neg Bool.false_ne_true, if_neg Bool.false_ne_true, mn_eq, mx_eq]
  omega
theorem enc_bot {P Q : Int} (h0 : 10980000 ≤ P) (h : P ≤ Q) (h1 : Q ≤ 21420000) : encH P Q ≤ -56195305 := by
  have e := (enc_part h0 h h1).2
  have m2 : metB 10980000 21420000 5400000 = false := by unfold metB; rw [decide_eq_false_iff_not]; omega
  have g := (b_one (n := 180000) (by decide) (by decide)).1
  rw [b_180.1] at g
  have f1 := (b_three (n := 10980000) (by decide) (by decide)).2
  have f2 := (b_four (n := -180000) (by decide) (by decide)).2
  have f3 := (b_shift (-180000) 1).2
  rw [show (10980000 - 10800000 : Int).toNat = (180000 : Int).toNat from rfl, ← g] at f1
  rw [show (-(-180000 : Int)).toNat = (180000 : Int).toNat from rfl, ← g] at f2
  rw [show (-180000 + 21600000 * 1 : Int) = 21420000 from rfl, f2] at f3
  rw [encH_at 10980000, m2, if_neg Bool.false_ne_true, f1, f3, mx_eq] at e
  omega
structure HsM (S p q : Int → Int) (c0 c1 : Int) : Prop where
  k0 : 530000000 ≤ c0
  k1 : c0 ≤ c1
  k2 : c1 ≤ c0 + 30000000
  up : ∀ t, S t = 1 ↔ -hsX ≤ c1 * encL (p t) (q t)
  dn : ∀ t, S t = -1 ↔ c0 * encH (p t) (q t) ≤ -hsY
  tri : ∀ t, S t = -1 ∨ S t = 0 ∨ S t = 1
  w0 : ∀ t, p t ≤ q t
  w1 : ∀ t, q t ≤ p t + 101
  p0 : ∀ t, p t ≤ p (t + 1) ∧ p (t + 1) ≤ p t + 1
  q0 : ∀ t, q t ≤ q (t + 1)
  rate : ∀ t d, 0 ≤ d → 21659138841977 * d - 86400000000000 < 86400000000000 * (p (t + d) - p t) ∧ 86400000000000 * (p (t + d) - p t) < 21659138841977 * d + 86400000000000
section
variable {S p q : Int → Int} {c0 c1 : Int}
theorem enc_to (a b k : Int) : encL a b = encL (a - 21600000 * k) (b - 21600000 * k) ∧ encH a b = encH (a - 21600000 * k) (b - 21600000 * k) := by
  have := enc_turn (a - 21600000 * k) (b - 21600000 * k) k
  rw [show a - 21600000 * k + 21600000 * k = a by omega, show b - 21600000 * k + 21600000 * k = b by omega] at this
  exact this
theorem HsM.isUp (M : HsM S p q c0 c1) {t : Int} (k : Int) (h0 : 0 ≤ p t - 21600000 * k) (h1 : q t - 21600000 * k ≤ 10800000) : S t = 1 := by
  rw [M.up, (enc_to _ _ k).1]
  have := enc_pos h0 (by have := M.w0 t; omega) h1
  have := Int.mul_nonneg (show 0 ≤ c1 by have := M.k0; have := M.k1; omega) this
  have := hs_num
  omega
theorem HsM.isDn (M : HsM S p q c0 c1) {t : Int} (k : Int) (h0 : 10980000 ≤ p t - 21600000 * k) (h1 : q t - 21600000 * k ≤ 21420000) : S t = -1 := by
  rw [M.dn, (enc_to _ _ k).2]
  have e := enc_bot h0 (by have := M.w0 t; omega) h1
  have m := Int.mul_le_mul (a := 530000000) (b := 56195305) (c := c0) (d := -(encH (p t - 21600000 * k) (q t - 21600000 * k))) M.k0 (by omega) (by omega) (by have := M.k0; omega)
  rw [Int.mul_neg] at m
  have := hs_num
  omega
theorem HsM.rise (M : HsM S p q c0 c1) {t : Int} (k : Int) (h0 : -5400000 < p t - 21600000 * k) (h1 : q t - 21600000 * k < 5400000) : (S t = 1 ↔ -hsX ≤ c1 * bLo (p t - 21600000 * k)) ∧ (S t = -1 ↔ c0 * bHi (q t - 21600000 * k) ≤ -hsY) := by
  have e := enc_rise h0 (by have := M.w0 t; omega) h1
  rw [M.up, M.dn, (enc_to _ _ k).1, (enc_to _ _ k).2, e.1, e.2]
  exact ⟨Iff.rfl, Iff.rfl⟩
theorem HsM.set (M : HsM S p q c0 c1) {t : Int} (k : Int) (h0 : 5400000 < p t - 21600000 * k) (h1 : q t - 21600000 * k < 16200000) : (S t = 1 ↔ -hsX ≤ c1 * bLo (q t - 21600000 * k)) ∧ (S t = -1 ↔ c0 * bHi (p t - 21600000 * k) ≤ -hsY) := by
  have e := enc_set h0 (by have := M.w0 t; omega) h1
  rw [M.up, M.dn, (enc_to _ _ k).1, (enc_to _ _ k).2, e.1, e.2]
  exact ⟨Iff.rfl, Iff.rfl⟩
theorem HsM.z0 (M : HsM S p q c0 c1) : 0 ≤ c0 ∧ 0 ≤ c1 := by have := M.k0; have := M.k1; omega
theorem HsM.lvR (M : HsM S p q c0 c1) {t : Int} (h : S t = -1) (h' : S (t + 1) ≠ -1) : ∃ k, -180105 ≤ p t - 21600000 * k ∧ p t - 21600000 * k ≤ 0 := by
  have a1 := M.w0 t
  have a2 := M.w1 t
  have a3 := M.w0 (t + 1)
  have a4 := M.w1 (t + 1)
  have a5 := M.p0 t
  obtain ⟨k, hk⟩ : ∃ k, p t / 21600000 = k := ⟨_, rfl⟩
  by_cases z1 : p t - 21600000 * k ≤ 10799899
  · have := M.isUp (t := t) k (by omega) (by omega); omega
  · by_cases z2 : p t - 21600000 * k < 10980000
    · have s1 := (M.set (t := t) k (by omega) (by omega)).2.1 h
      have m := (b_down (a := p t - 21600000 * k) (b := p (t + 1) - 21600000 * k) (by omega) (by omega) (by omega)).2
      have m2 := Int.mul_le_mul_of_nonneg_left m M.z0.1
      exact absurd ((M.set (t := t + 1) k (by omega) (by omega)).2.2 (by omega)) h'
    · by_cases z3 : p t - 21600000 * k ≤ 21419897
      · exact absurd (M.isDn (t := t + 1) k (by omega) (by omega)) h'
      · exact ⟨k + 1, by omega, by omega⟩
theorem HsM.enR (M : HsM S p q c0 c1) {t : Int} (h : S t ≠ 1) (h' : S (t + 1) = 1) : ∃ k, -180105 ≤ p (t + 1) - 21600000 * k ∧ p (t + 1) - 21600000 * k ≤ 2 := by
  have a1 := M.w0 t
  have a2 := M.w1 t
  have a3 := M.w0 (t + 1)
  have a4 := M.w1 (t + 1)
  have a5 := M.p0 t
  have a6 := M.q0 t
  obtain ⟨k, hk⟩ : ∃ k, p (t + 1) / 21600000 = k := ⟨_, rfl⟩
  by_cases z0 : p (t + 1) - 21600000 * k ≤ 1
  · exact ⟨k, by omega, by omega⟩
  · by_cases z1 : p (t + 1) - 21600000 * k ≤ 10799899
    · exact absurd (M.isUp (t := t) k (by omega) (by omega)) h
    · by_cases z2 : p (t + 1) - 21600000 * k < 10980000
      · have s1 := (M.set (t := t + 1) k (by omega) (by omega)).1.1 h'
        have m := (b_down (a := q t - 21600000 * k) (b := q (t + 1) - 21600000 * k) (by omega) (by omega) (by omega)).1
        have m2 := Int.mul_le_mul_of_nonneg_left m M.z0.2
        exact absurd ((M.set (t := t) k (by omega) (by omega)).1.2 (by omega)) h
      · by_cases z3 : p (t + 1) - 21600000 * k ≤ 21419899
        · have := M.isDn (t := t + 1) k (by omega) (by omega); omega
        · exact ⟨k + 1, by omega, by omega⟩
theorem HsM.lvS (M : HsM S p q c0 c1) {t : Int} (h : S t = 1) (h' : S (t + 1) ≠ 1) : ∃ k, 10799800 ≤ p t - 21600000 * k ∧ p t - 21600000 * k ≤ 10980000 := by
  have a1 := M.w0 t
  have a2 := M.w1 t
  have a3 := M.w0 (t + 1)
  have a4 := M.w1 (t + 1)
  have a5 := M.p0 t
  obtain ⟨k, hk⟩ : ∃ k, p t / 21600000 = k := ⟨_, rfl⟩
  by_cases z1 : p t - 21600000 * k ≤ 10799897
  · exact absurd (M.isUp (t := t + 1) k (by omega) (by omega)) h'
  · by_cases z2 : p t - 21600000 * k < 10980000
    · exact ⟨k, by omega, by omega⟩
    · by_cases z3 : p t - 21600000 * k ≤ 21419899
      · have := M.isDn (t := t) k (by omega) (by omega); omega
      · have s1 := (M.rise (t := t) (k + 1) (by omega) (by omega)).1.1 h
        have m := (b_up (a := p t - 21600000 * (k + 1)) (b := p (t + 1) - 21600000 * (k + 1)) (by omega) (by omega) (by omega)).1
        have m2 := Int.mul_le_mul_of_nonneg_left m M.z0.2
        exact absurd ((M.rise (t := t + 1) (k + 1) (by omega) (by omega)).1.2 (by omega)) h'
theorem HsM.enS (M : HsM S p q c0 c1) {t : Int} (h : S t ≠ -1) (h' : S (t + 1) = -1) : ∃ k, 10799800 ≤ p (t + 1) - 21600000 * k ∧ p (t + 1) - 21600000 * k ≤ 10980002 := by
  have a1 := M.w0 t
  have a2 := M.w1 t
  have a3 := M.w0 (t + 1)
  have a4 := M.w1 (t + 1)
  have a5 := M.p0 t
  have a6 := M.q0 t
  obtain ⟨k, hk⟩ : ∃ k, p (t + 1) / 21600000 = k := ⟨_, rfl⟩
  by_cases z1 : p (t + 1) - 21600000 * k ≤ 10799899
  · have := M.isUp (t := t + 1) k (by omega) (by omega); omega
  · by_cases z2 : p (t + 1) - 21600000 * k ≤ 10980001
    · exact ⟨k, by omega, by omega⟩
    · by_cases z3 : p (t + 1) - 21600000 * k ≤ 21419899
      · exact absurd (M.isDn (t := t) k (by omega) (by omega)) h
      · have s1 := (M.rise (t := t + 1) (k + 1) (by omega) (by omega)).2.1 h'
        have m := (b_up (a := q t - 21600000 * (k + 1)) (b := q (t + 1) - 21600000 * (k + 1)) (by omega) (by omega) (by omega)).2
        have m2 := Int.mul_le_mul_of_nonneg_left m M.z0.1
        exact absurd ((M.rise (t := t) (k + 1) (by omega) (by omega)).2.2 (by omega)) h
theorem HsM.gapR (M : HsM S p q c0 c1) {t t' k k' : Int} (h : S t ≠ -1) (g0 : -180200 ≤ p t - 21600000 * k) (g1 : p t - 21600000 * k ≤ 200) (g : q t - 21600000 * k + 25000 ≤ p t' - 21600000 * k') (g' : p t' - 21600000 * k' ≤ 500000) : S t' = 1 := by
  have a1 := M.w0 t
  have a2 := M.w1 t
  have a3 := M.w0 t'
  have a4 := M.w1 t'
  have r1 := (M.rise (t := t) k (by omega) (by omega)).2
  have r2 := (M.rise (t := t') k' (by omega) (by omega)).1
  exact r2.2 (hs_gap M.k0 M.k1 M.k2 (by omega) g (by omega) (by have h2 := mt r1.2 h; omega))
theorem HsM.gapS (M : HsM S p q c0 c1) {t t' k k' : Int} (h : S t ≠ 1) (g0 : 10799700 ≤ p t - 21600000 * k) (g1 : p t - 21600000 * k ≤ 10980100) (g : q t - 21600000 * k + 25000 ≤ p t' - 21600000 * k') (g' : p t' - 21600000 * k' ≤ 10980100) : S t' = -1 := by
  have a1 := M.w0 t
  have a2 := M.w1 t
  have a3 := M.w0 t'
  have a4 := M.w1 t'
  have r1 := (M.set (t := t) k (by omega) (by omega)).1
  have r2 := (M.set (t := t') k' (by omega) (by omega)).2
  rw [r2]
  have e1 := b_reflQ (n := 10800000 - (p t' - 21600000 * k')) (by omega) (by omega)
  have e2 := b_reflQ (n := 10800000 - (q t - 21600000 * k)) (by omega) (by omega)
  rw [show (10800000 : Int) - (10800000 - (p t' - 21600000 * k')) = p t' - 21600000 * k' by omega] at e1
  rw [show (10800000 : Int) - (10800000 - (q t - 21600000 * k)) = q t - 21600000 * k by omega] at e2
  by_cases c : c0 * bHi (p t' - 21600000 * k') ≤ -hsY
  · exact c
  · rw [e1.2] at c
    have := hs_gap (n := 10800000 - (p t' - 21600000 * k')) (m := 10800000 - (q t - 21600000 * k)) M.k0 M.k1 M.k2 (by omega) (by omega) (by omega) (by omega)
    rw [← e2.1] at this
    exact absurd (r1.2 this) h
theorem HsM.shortR (M : HsM S p q c0 c1) {a b : Int} (h1 : S a = -1) (h2 : S (a + 1) ≠ -1) (h3 : S b ≠ 1) (h4 : S (b + 1) = 1) (hab : a ≤ b) (hb : b + 1 - a ≤ 2400000) : b + 1 - a ≤ 120000 := by
  obtain ⟨k, k0, k1⟩ := M.lvR h1 h2
  obtain ⟨l, l0, l1⟩ := M.enR h3 h4
  have r := M.rate a (b + 1 - a) (by omega)
  have r' := M.rate a (b - a) (by omega)
  rw [show a + (b + 1 - a) = b + 1 by omega] at r
  rw [show a + (b - a) = b by omega] at r'
  have p1 := M.p0 a
  have p2 := M.p0 b
  have w := M.w1 (a + 1)
  have w0 := M.w0 (a + 1)
  have hkl : k = l := by omega
  subst hkl
  by_cases c : b + 1 - a ≤ 120000
  · exact c
  · exact absurd (M.gapR (t := a + 1) (t' := b) (k := k) (k' := k) h2 (by omega) (by omega) (by omega) (by omega)) h3
theorem HsM.shortS (M : HsM S p q c0 c1) {a b : Int} (h1 : S a = 1) (h2 : S (a + 1) ≠ 1) (h3 : S b ≠ -1) (h4 : S (b + 1) = -1) (hab : a ≤ b) (hb : b + 1 - a ≤ 2400000) : b + 1 - a ≤ 120000 := by
  obtain ⟨k, k0, k1⟩ := M.lvS h1 h2
  obtain ⟨l, l0, l1⟩ := M.enS h3 h4
  have r := M.rate a (b + 1 - a) (by omega)
  have r' := M.rate a (b - a) (by omega)
  rw [show a + (b + 1 - a) = b + 1 by omega] at r
  rw [show a + (b - a) = b by omega] at r'
  have p1 := M.p0 a
  have p2 := M.p0 b
  have w := M.w1 (a + 1)
  have w0 := M.w0 (a + 1)
  have hkl : k = l := by omega
  subst hkl
  by_cases c : b + 1 - a ≤ 120000
  · exact c
  · exact absurd (M.gapS (t := a + 1) (t' := b) (k := k) (k' := k) h2 (by omega) (by omega) (by omega) (by omega)) h3
theorem HsM.again (M : HsM S p q c0 c1) {a b : Int} (h1 : S a = -1) (h2 : S (a + 1) ≠ -1) (g1 : S b = -1) (g2 : S (b + 1) ≠ -1) : ∃ j, p b - p a - 21600000 * j ≤ 25104 ∧ -25104 ≤ p b - p a - 21600000 * j := by
  obtain ⟨k, k0, k1⟩ := M.lvR h1 h2
  obtain ⟨l, l0, l1⟩ := M.lvR g1 g2
  have p1 := M.p0 a
  have p2 := M.p0 b
  have w1 := M.w1 (a + 1)
  have w2 := M.w1 (b + 1)
  refine ⟨l - k, ?_, ?_⟩
  · by_cases c : p b - p a - 21600000 * (l - k) ≤ 25104
    · exact c
    · have := M.gapR (t := a + 1) (t' := b) (k := k) (k' := l) h2 (by omega) (by omega) (by omega) (by omega)
      omega
  · by_cases c : -25104 ≤ p b - p a - 21600000 * (l - k)
    · exact c
    · have := M.gapR (t := b + 1) (t' := a) (k := l) (k' := k) g2 (by omega) (by omega) (by omega) (by omega)
      omega
theorem HsM.half (M : HsM S p q c0 c1) {a b : Int} (h1 : S a = -1) (h2 : S (a + 1) ≠ -1) (g1 : S b = 1) (g2 : S (b + 1) ≠ 1) : ∃ j, 10799800 ≤ p b - p a - 21600000 * j ∧ p b - p a - 21600000 * j ≤ 11160105 := by
  obtain ⟨k, k0, k1⟩ := M.lvR h1 h2
  obtain ⟨l, l0, l1⟩ := M.lvS g1 g2
  exact ⟨l - k, by omega, by omega⟩
theorem HsM.notTwo (M : HsM S p q c0 c1) {t : Int} (h : S t = 0) : S (t + 1200000) ≠ 0 := by
  have a1 := M.w0 t
  have a2 := M.w1 t
  have a3 := M.w0 (t + 1200000)
  have a4 := M.w1 (t + 1200000)
  have r := M.rate t 1200000 (by decide)
  obtain ⟨k, hk⟩ : ∃ k, p t / 21600000 = k := ⟨_, rfl⟩
  by_cases z1 : p t - 21600000 * k ≤ 10799899
  · have := M.isUp (t := t) k (by omega) (by omega); omega
  · by_cases z2 : p t - 21600000 * k < 10980000
    · have := M.isDn (t := t + 1200000) k (by omega) (by omega); omega
    · by_cases z3 : p t - 21600000 * k ≤ 21419899
      · have := M.isDn (t := t) k (by omega) (by omega); omega
      · have := M.isUp (t := t + 1200000) (k + 1) (by omega) (by omega); omega
end
end Go.Proofs.YtnnmfdeeicpdlaaGreat
/- The reference's quick sine of the first eighth of a turn. -/
namespace Go.Proofs.YtnnmfdeeicpdlaaGreat
open Go.RowKit

def qkV (r : Nat) (c : Bool) : Int := altS h31 (higN h31 (quiX r) (quiX r)) 64 (if c then h31 * h31 else quiX r) (if c then 1 else 2)
structure QkI (sq t0 : Nat) (V : Int) (t d : Nat) (sm : Int) : Prop where
  ex : ∃ f, f ≤ 32 ∧ d + 4 * f ≤ 130 ∧ t < 2 ^ (2 * f) ∧ sm + altS h31 sq (2 * f) t d = V
  d1 : 1 ≤ d
  s0 : 0 ≤ sm
  st : sm + t ≤ t0
theorem QkI.done {sq t0 d : Nat} {V sm : Int} (h : QkI sq t0 V 0 d sm) : sm = V := by
  obtain ⟨f, -, -, -, hv⟩ := h.ex
  rw [altS_zero] at hv
  omega
theorem QkI.step {sq t0 t d t1 t2 : Nat} {V sm : Int} (h : QkI sq t0 V t d sm) (hsq : sq ≤ h31 * h31) (ht : 0 < t) (h1 : nexT h31 sq t d = t1) (h2 : nexT h31 sq t1 (d + 2) = t2) :
    QkI sq t0 V t2 (d + 4) (sm + t - t1) ∧ t1 * 2 ≤ t ∧ t2 * 2 ≤ t1 ∧ d ≤ 126 := by
  obtain ⟨f, hf, hdf, htf, hv⟩ := h.ex
  have l1 := nexT_le (sq := sq) (t := t) (d := d) h31_pos hsq h.d1
  have l2 := nexT_le (sq := sq) (t := t1) (d := d + 2) h31_pos hsq (by have := h.d1; omega)
  rw [h1] at l1
  rw [h2] at l2
  have hst := h.st
  have hs0 := h.s0
  match f, hf, hdf, htf, hv with
  | 0, _, _, htf, _ => exfalso; simp at htf; omega
  | f + 1, hf, hdf, htf, hv =>
    refine ⟨⟨⟨f, by omega, by omega, ?_, ?_⟩, by omega, by omega, by omega⟩, l1, l2, by omega⟩
    · rw [show 2 * (f + 1) = 2 * f + 2 by omega, Nat.pow_add] at htf
      omega
    · rw [show 2 * (f + 1) = 2 * f + 1 + 1 by omega] at hv
      simp only [altS] at hv
      rw [h1, h2, show d + 2 + 2 = d + 4 by omega] at hv
      omega
attribute [irreducible] qkV
end Go.Proofs.YtnnmfdeeicpdlaaGreat
/- The reference's sines and cosines over arcs. -/
namespace Go.Proofs.YtnnmfdeeicpdlaaGreat
open Go.RowKit

end Go.Proofs.YtnnmfdeeicpdlaaGreat

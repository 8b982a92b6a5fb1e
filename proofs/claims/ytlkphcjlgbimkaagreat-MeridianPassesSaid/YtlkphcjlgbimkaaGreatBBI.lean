/- Contracts and plain laws, several texts in one: Pas; Pa2 -/
import Derived.Test.YtlkphcjlgbimkaaGreatProg
import Derived.WalkKit
import Derived.WalkSpells
import Derived.WalkLawsBesides
import Derived.Lib.Hide
import Derived.BigQuiet
import Derived.Test.YtlkphcjlgbimkaaGreatBAA
import Derived.Test.YtlkphcjlgbimkaaGreatBAB
import Derived.Test.YtlkphcjlgbimkaaGreatBBA
import Derived.Test.YtlkphcjlgbimkaaGreatBBB
import Derived.Test.YtlkphcjlgbimkaaGreatBBC
/- Transit and Longitude (package meridian): what they return; the plain law of transits. -/
namespace Go.Proofs.YtlkphcjlgbimkaaGreat
open Go.RowKit Go.Shelf

theorem dia_agr {l h : Int} (hl : l ≤ h) : agrB l h 0 0 = true ↔ Dia 0 0 l h := by
  unfold agrB Dia
  rw [Bool.or_eq_true, decide_eq_true_eq, decide_eq_true_eq]
  omega
theorem Dia.trans0 {x0 y0 x1 y1 : Int} (h : Dia 0 0 x0 y0) (k : Dia x0 y0 x1 y1) : Dia 0 0 x1 y1 := by unfold Dia at *; omega
theorem lhaE_0 {lp : List PgV} {ls : List StarV} {s : ByteArray} {a b x y : Int} : lhaE lp ls s a b x y = 0 ↔ timB a b = true ∧ validB x y = true ∧ (whR lp ls s a b).2 = 0 := by
  unfold lhaE
  cases timB a b
  · simp
  · cases validB x y
    · simp
    · simp
theorem whR_known {lp : List PgV} {ls : List StarV} {s : ByteArray} {a b : Int} (h : (whR lp ls s a b).2 = 0) : timB a b = true ∧ knownB lp ls s = true := by
  cases whW lp ls s a b with
  | bad k => rw [whR_bad k] at h; cases h
  | name t k => rw [whR_name t k] at h; cases h
  | wide t k d => exact ⟨t, k⟩
  | aries t d k => exact ⟨t, known_aries k⟩
  | star i x t d k f g e => exact ⟨t, known_star f⟩
  | body t d k f g c => exact ⟨t, known_body c⟩
theorem bodyR_trk {lp : List PgV} {s : ByteArray} {a b : Int} (h : (bodyR lp s a b).2 = 0) : (∃ t, trkAt lp s (a / 86400000) = some t) ∧ ∃ u, trkAt lp s (b / 86400000) = some u := by
  cases k1 : trkAt lp s (a / 86400000) with
  | none => rw [bodyR_no k1] at h; cases h
  | some t =>
    refine ⟨⟨t, rfl⟩, ?_⟩
    by_cases e : a / 86400000 = b / 86400000
    · exact ⟨t, by rw [← e]; exact k1⟩
    · cases k2 : trkAt lp s (b / 86400000) with
      | none => rw [bodyR_no2 k1 e k2] at h; cases h
      | some u => exact ⟨u, rfl⟩
theorem whR_body0 {lp : List PgV} {ls : List StarV} {s : ByteArray} {a b : Int} (h : (whR lp ls s a b).2 = 0) (hA : isA s = false) (hS : ls.find? (fun x => nmB x.s s) = none) : (bodyR lp s a b).2 = 0 := by
  cases whW lp ls s a b with
  | bad k => rw [whR_bad k] at h; cases h
  | name t k => rw [whR_name t k] at h; cases h
  | wide t k d => rw [whR_wide t k d] at h; cases h
  | aries t d k => rw [hA] at k; cases k
  | star i x t d k f g e => rw [hS] at e; cases e
  | body t d k f g c => rw [whR_body t d k g c] at h; exact h
/-- Two times with places have one together. -/
theorem whR_both {lp : List PgV} {ls : List StarV} {s : ByteArray} {a x y b : Int} (h1 : (whR lp ls s a x).2 = 0) (h2 : (whR lp ls s y b).2 = 0) (hab : a ≤ b) (hw : b - a < 86400000) : (whR lp ls s a b).2 = 0 := by
  have t1 := timB_iff.1 (whR_known h1).1
  have t2 := timB_iff.1 (whR_known h2).1
  have tm : timB a b = true := timB_iff.2 ⟨hab, t1.2.1, t2.2.2⟩
  cases whW lp ls s a b with
  | bad k => rw [tm] at k; cases k
  | name t k => rw [(whR_known h1).2] at k; cases k
  | wide t k d => omega
  | aries t d k => rw [whR_aries t d k]
  | star i x t d k f g e => rw [whR_star t d k f e]
  | body t d k f g c =>
    rw [whR_body t d k g c]
    obtain ⟨⟨u, hu⟩, _⟩ := bodyR_trk (whR_body0 h1 k g)
    obtain ⟨_, v, hv⟩ := bodyR_trk (whR_body0 h2 k g)
    by_cases e : a / 86400000 = b / 86400000
    · rw [bodyR_one hu e]
    · rw [bodyR_two hu e hv]
/-- A part within a day lies within the whole. -/
theorem whR_sub {lp : List PgV} {ls : List StarV} {s : ByteArray} {a b f u : Int} (hok : ∀ p ∈ lp, PgOk p) (h1 : a ≤ f) (h2 : f ≤ u) (h3 : u ≤ b) (hd : f / 86400000 = u / 86400000) (h : (whR lp ls s a b).2 = 0) :
    Dia (whR lp ls s f u).1.a (whR lp ls s f u).1.b (whR lp ls s a b).1.a (whR lp ls s a b).1.b := by
  cases whW lp ls s a b with
  | bad k => rw [whR_bad k] at h; cases h
  | name t k => rw [whR_name t k] at h; cases h
  | wide t k d => rw [whR_wide t k d] at h; cases h
  | aries t d k =>
    have tn : timB f u = true := by have := timB_iff.1 t; exact timB_iff.2 (by omega)
    rw [whR_aries t d k, whR_aries tn (by omega) k]
    exact (Dia.sub (ariF_mono h1) (ariF_le h2) (ariU_mono h3)).turnL.turnR
  | star i x t d k fi g e =>
    have tn : timB f u = true := by have := timB_iff.1 t; exact timB_iff.2 (by omega)
    rw [whR_star t d k fi e, whR_star tn (by omega) k fi e]
    exact ((Dia.sub (ariF_mono h1) (ariF_le h2) (ariU_mono h3)).turnL.turnR.add (by omega)).turnL.turnR
  | body t d k fi g c =>
    have tn : timB f u = true := by have := timB_iff.1 t; exact timB_iff.2 (by omega)
    rw [whR_body t d k g c] at h ⊢
    rw [whR_body tn (by omega) k g c]
    obtain ⟨⟨v, hv⟩, z, hz⟩ := bodyR_trk h
    have o1 := trkAt_ok hok hv
    have o2 := trkAt_ok hok hz
    by_cases e : a / 86400000 = b / 86400000
    · have ef : f / 86400000 = a / 86400000 := by omega
      rw [bodyR_one hv e, bodyR_one (a := f) (b := u) (by rw [ef]; exact hv) hd, ef]
      exact (gha_part o1 (by omega) (by omega) (by omega)).gha
    · rw [bodyR_two hv e hz]
      by_cases ef : f / 86400000 = a / 86400000
      · rw [bodyR_one (a := f) (b := u) (by rw [ef]; exact hv) hd, ef]
        exact (gha_part o1 (by omega) (by omega) (by omega)).left.gha
      · have ef2 : f / 86400000 = b / 86400000 := by omega
        rw [bodyR_one (a := f) (b := u) (by rw [ef2]; exact hz) hd, ef2]
        exact (gha_part o2 (by omega) (by omega) (by omega)).right.gha
variable {lp : List PgV} {ls : List StarV} {s : ByteArray}
/-- Whether a span agrees with a transit. -/
noncomputable def agT (lp : List PgV) (ls : List StarV) (s : ByteArray) (x a b : Int) : Bool := if lhaE lp ls s a b x x = 0 then agrB (lhaL lp ls s a b x x) (lhaH lp ls s a b x x) 0 0 else false
theorem lha_form {a b x : Int} (hok : ∀ p ∈ lp, PgOk p) (h : lhaE lp ls s a b x x = 0) : lhaL lp ls s a b x x = turnLo ((whR lp ls s a b).1.a + x % 21600000) ((whR lp ls s a b).1.b + x % 21600000) ∧ lhaH lp ls s a b x x = turnHi ((whR lp ls s a b).1.a + x % 21600000) ((whR lp ls s a b).1.b + x % 21600000) ∧ (whR lp ls s a b).1.a ≤ (whR lp ls s a b).1.b := by
  have tf := whR_tf hok (lhaE_0.1 h).2.2
  unfold lhaL lhaH
  rw [if_pos h, if_pos h]
  have e1 : turnLo x x = x % 21600000 := by unfold turnLo; rw [if_neg (by omega)]
  have e2 : turnHi x x = x % 21600000 := by unfold turnHi; rw [if_neg (by omega)]; omega
  rw [e1, e2]
  exact ⟨rfl, rfl, tf.h2⟩
theorem agT_iff {a b x : Int} (hok : ∀ p ∈ lp, PgOk p) (h : lhaE lp ls s a b x x = 0) : agT lp ls s x a b = true ↔ Dia 0 0 ((whR lp ls s a b).1.a + x % 21600000) ((whR lp ls s a b).1.b + x % 21600000) := by
  obtain ⟨e1, e2, e3⟩ := lha_form hok h
  unfold agT
  rw [if_pos h, e1, e2, dia_agr (turn_bd (by omega)).2.2.1]
  generalize (whR lp ls s a b).1.a = p at *
  generalize (whR lp ls s a b).1.b = q at *
  generalize x % 21600000 = c at *
  constructor
  · intro k
    unfold Dia at *
    unfold turnLo turnHi at k
    split at k <;> omega
  · intro k; exact k.turnR
/-- A transit as found: hour K, parts i to j. -/
structure TrOk (F : Int → Int → Bool) (E : Int → Int → Int) (f : Int) (K i j : Nat) : Prop where
  f0 : -70368744177664 ≤ f
  f1 : f ≤ 70368646977664
  k1 : K ≤ 25
  no : ∀ m : Nat, m < K → E (f + (m : Int) * 3600000) (f + (m : Int) * 3600000 + 3600000) = 0 ∧ F (f + (m : Int) * 3600000) (f + (m : Int) * 3600000 + 3600000) = false
  e0 : E (f + (K : Int) * 3600000) (f + (K : Int) * 3600000 + 3600000) = 0
  ij : i ≤ j
  j1 : j ≤ 8191
  fi : F (f + (K : Int) * 3600000 + (i : Int) * 3600000 / 4096) (f + (K : Int) * 3600000 + ((i : Int) + 1) * 3600000 / 4096) = true
  ei : E (f + (K : Int) * 3600000 + (i : Int) * 3600000 / 4096) (f + (K : Int) * 3600000 + ((i : Int) + 1) * 3600000 / 4096) = 0
  fj : F (f + (K : Int) * 3600000 + (j : Int) * 3600000 / 4096) (f + (K : Int) * 3600000 + ((j : Int) + 1) * 3600000 / 4096) = true
  ej : E (f + (K : Int) * 3600000 + (j : Int) * 3600000 / 4096) (f + (K : Int) * 3600000 + ((j : Int) + 1) * 3600000 / 4096) = 0
theorem day_two {A B C D : Int} (h1 : A ≤ B) (h2 : B ≤ C) (h3 : C ≤ D) (h4 : D - A ≤ 7200000) (h : ¬ A / 86400000 = B / 86400000) : C / 86400000 = D / 86400000 := by
  have e1 := Int.ediv_le_ediv (c := 86400000) (by decide) h1
  have e2 := Int.ediv_le_ediv (c := 86400000) (by decide) h2
  have e3 := Int.ediv_le_ediv (c := 86400000) (by decide) h3
  omega
theorem TrOk.whole {f x : Int} {K i j : Nat} (hok : ∀ p ∈ lp, PgOk p) (h : TrOk (agT lp ls s x) (fun a b => lhaE lp ls s a b x x) f K i j) :
    lhaE lp ls s (f + (K : Int) * 3600000 + (i : Int) * 3600000 / 4096) (f + (K : Int) * 3600000 + ((j : Int) + 1) * 3600000 / 4096) x x = 0 ∧
    agT lp ls s x (f + (K : Int) * 3600000 + (i : Int) * 3600000 / 4096) (f + (K : Int) * 3600000 + ((j : Int) + 1) * 3600000 / 4096) = true := by
  obtain ⟨f0, f1, k1, _, _, ij, j1, fi, ei, fj, ej⟩ := h
  obtain ⟨A, hA⟩ : ∃ A, f + (K : Int) * 3600000 + (i : Int) * 3600000 / 4096 = A := ⟨_, rfl⟩
  obtain ⟨B, hB⟩ : ∃ B, f + (K : Int) * 3600000 + ((i : Int) + 1) * 3600000 / 4096 = B := ⟨_, rfl⟩
  obtain ⟨C, hC⟩ : ∃ C, f + (K : Int) * 3600000 + (j : Int) * 3600000 / 4096 = C := ⟨_, rfl⟩
  obtain ⟨D, hD⟩ : ∃ D, f + (K : Int) * 3600000 + ((j : Int) + 1) * 3600000 / 4096 = D := ⟨_, rfl⟩
  have ord : A ≤ B ∧ C ≤ D ∧ A ≤ C ∧ B ≤ D ∧ D - A ≤ 7200000 ∧ (i < j → B ≤ C) := by
    refine ⟨by omega, by omega, by omega, by omega, by omega, fun h => by omega⟩
  rw [hA, hB] at fi ei
  rw [hC, hD] at fj ej
  rw [hA, hD]
  obtain ⟨o1, o2, o3, o4, o5, o6⟩ := ord
  obtain ⟨a1, a2, a3⟩ := lhaE_0.1 ei
  obtain ⟨b1, b2, b3⟩ := lhaE_0.1 ej
  have w0 := whR_both a3 b3 (by omega) (by omega)
  have e0 : lhaE lp ls s A D x x = 0 := lhaE_0.2 ⟨(whR_known w0).1, a2, w0⟩
  refine ⟨e0, (agT_iff hok e0).2 ?_⟩
  have di := (agT_iff hok ei).1 fi
  have dj := (agT_iff hok ej).1 fj
  by_cases hij : i = j
  · have hBD : B = D := by rw [← hB, ← hD, hij]
    rw [hBD] at di
    exact di
  · have hBC := o6 (by omega)
    by_cases hd : A / 86400000 = B / 86400000
    · exact di.trans0 ((whR_sub hok (Int.le_refl A) o1 o4 hd w0).add (Int.le_refl _))
    · have hd2 : C / 86400000 = D / 86400000 := day_two o1 hBC o2 o5 hd
      exact dj.trans0 ((whR_sub hok o3 o2 (Int.le_refl D) hd2 w0).add (Int.le_refl _))
/-- The longitude over a time that agrees. -/
theorem lon_agr {p q x : Int} (h : Dia 0 0 (p + x % 21600000) (q + x % 21600000)) (hw : q - p < 21600000) : agrB (sgnI (-q)) (sgnI (-q) + q - p) x x = true := by
  unfold Dia at h
  have hs := sgn_mod (-q)
  unfold agrB
  rw [Bool.or_eq_true, decide_eq_true_eq, decide_eq_true_eq]
  left
  omega
end Go.Proofs.YtlkphcjlgbimkaaGreat
/- The walks of meridian.agrees, Transit, Longitude. -/
namespace Go.Proofs.YtlkphcjlgbimkaaGreat
open Go.RowKit Go.Shelf

set_option maxHeartbeats 2000000 in
theorem made_agrees {w : World} {bk : Nat} {lp : List PgV} {ls : List StarV} {W : World} (h : BkA w bk lp ls W) (k : NewOk lp ls) (s : ByteArray) (x a b : Int) (L : List (Obj ⊕ Ext)) :
    Calls Tryz.prog 110 #[.pointer (some ⟨bk, 0, none⟩), .string s, (.agg #[.int .i64 (x), .int .i64 (x)]), .int .i64 a, .int .i64 b] (lay W L) fun e w' => e = .returned (.tuple #[.bool (agT lp ls s x a b), .int .i64 (lhaE lp ls s a b x x)]) ∧ ∃ d, w' = bw (lay W L) d := by
  have HL := Lib.hid (fun L' => made_Lha (h.bw L) k s a b x x L')
  have hA : agT lp ls s x a b = if lhaE lp ls s a b x x = 0 then agrB (lhaL lp ls s a b x x) (lhaH lp ls s a b x x) 0 0 else false := rfl
  have hv : lhaE lp ls s a b x x = 0 → validB (lhaL lp ls s a b x x) (lhaH lp ls s a b x x) = true := fun e => by
    obtain ⟨e1, e2, e3⟩ := lha_form k.ok e
    rw [e1, e2]
    exact turn_valid (by omega)
  clear h k
  generalize agT lp ls s x a b = R at *
  generalize lhaE lp ls s a b x x = E at *
  generalize lhaL lp ls s a b x x = P at *
  generalize lhaH lp ls s a b x x = Q at *
  generalize lay W L = w at *
  by_cases h0 : E = 0
  · rw [if_pos h0] at hA
    have HG := Lib.hid (fun W => angle_Agree P Q 0 0 W (hv h0) valid_00)
    rw [← hA] at HG
    subst h0
    clear hv hA
    refine lay_start ?_
    go_enter Tryz.func110, Tryz.ntmps110
    go_wp2_with (first | (go_at_call 26; refine (HL.out _).mono ?_; rintro e w' ⟨rfl, d1, rfl⟩) | (go_at_call 24; refine (HG.out _).mono ?_; rintro e w' ⟨rfl, d2, rfl⟩))
    all_goals exact bodyPost_ret (v := .tuple #[.bool R, .int .i64 0]) (by simp [results, Tryz.results110, go_sem]) rfl ⟨rfl, lay_ex _ _⟩
  · rw [if_neg h0] at hA
    subst hA
    have e1 : (E != 0) = true := by simpa using h0
    have e2 : (E == 0) = false := beq_eq_false_iff_ne.2 h0
    clear hv
    refine lay_start ?_
    go_enter Tryz.func110, Tryz.ntmps110
    go_wp2_with (first | (go_at_call 26; refine (HL.out _).mono ?_; rintro e w' ⟨rfl, d1, rfl⟩))
    all_goals exact bodyPost_ret (v := .tuple #[.bool false, .int .i64 E]) (by simp [results, Tryz.results110, go_sem]) rfl ⟨rfl, lay_ex _ _⟩
/-- What Transit leaves. -/
def TrPost (F : Int → Int → Bool) (E : Int → Int → Int) (f : Int) (w : World) (e : Ending) (w' : World) : Prop :=
  (∃ d, w' = bw w d) ∧ ((∃ c : Int, c ≠ 0 ∧ e = .returned (.tuple #[(.agg #[.int .i64 (0), .int .i64 (0)]), .int .i64 c])) ∨
    ∃ K i j : Nat, TrOk F E f K i j ∧ e = .returned (.tuple #[(.agg #[.int .i64 (f + (K : Int) * 3600000 + (i : Int) * 3600000 / 4096), .int .i64 (f + (K : Int) * 3600000 + ((j : Int) + 1) * 3600000 / 4096)]), .int .i64 0]))
theorem trPost_err {F : Int → Int → Bool} {E : Int → Int → Int} {f c : Int} {w w' : World} (hc : c ≠ 0) (hw : ∃ d, w' = bw w d) : TrPost F E f w (.returned (.tuple #[(.agg #[.int .i64 (0), .int .i64 (0)]), .int .i64 c])) w' := ⟨hw, .inl ⟨c, hc, rfl⟩⟩
theorem trPost_ok {F : Int → Int → Bool} {E : Int → Int → Int} {f p q : Int} {K i j : Nat} {w w' : World} (h : TrOk F E f K i j) (hp : p = f + (K : Int) * 3600000 + (i : Int) * 3600000 / 4096) (hq : q = f + (K : Int) * 3600000 + ((j : Int) + 1) * 3600000 / 4096) (hw : ∃ d, w' = bw w d) : TrPost F E f w (.returned (.tuple #[(.agg #[.int .i64 (p), .int .i64 (q)]), .int .i64 0])) w' := ⟨hw, .inr ⟨K, i, j, h, by rw [hp, hq]⟩⟩
/-- The hours ahead of the k-th do not agree. -/
def HrNo (F : Int → Int → Bool) (E : Int → Int → Int) (f : Int) (k : Nat) : Prop := ∀ m : Nat, m < k → E (f + (m : Int) * 3600000) (f + (m : Int) * 3600000 + 3600000) = 0 ∧ F (f + (m : Int) * 3600000) (f + (m : Int) * 3600000 + 3600000) = false
theorem HrNo.step {F : Int → Int → Bool} {E : Int → Int → Int} {f : Int} {k : Nat} (h : HrNo F E f k) (e : E (f + (k : Int) * 3600000) (f + (k : Int) * 3600000 + 3600000) = 0) (g : F (f + (k : Int) * 3600000) (f + (k : Int) * 3600000 + 3600000) = false) : HrNo F E f (k + 1) := fun m hm => by
  by_cases e2 : m = k
  · subst e2; exact ⟨e, g⟩
  · exact h m (by omega)
/-- The parts that were found among the first k. -/
def PtOk (F : Int → Int → Bool) (E : Int → Int → Int) (S : Int) (k : Nat) (any : Bool) (p q : Int) : Prop :=
  (any = false ∧ p = 0 ∧ q = 0) ∨ (any = true ∧ ∃ i j : Nat, i ≤ j ∧ j < k ∧ p = S + (i : Int) * 3600000 / 4096 ∧ q = S + ((j : Int) + 1) * 3600000 / 4096 ∧
    F (S + (i : Int) * 3600000 / 4096) (S + ((i : Int) + 1) * 3600000 / 4096) = true ∧ E (S + (i : Int) * 3600000 / 4096) (S + ((i : Int) + 1) * 3600000 / 4096) = 0 ∧
    F (S + (j : Int) * 3600000 / 4096) (S + ((j : Int) + 1) * 3600000 / 4096) = true ∧ E (S + (j : Int) * 3600000 / 4096) (S + ((j : Int) + 1) * 3600000 / 4096) = 0)
theorem PtOk.miss {F : Int → Int → Bool} {E : Int → Int → Int} {S : Int} {k : Nat} {any : Bool} {p q : Int} (h : PtOk F E S k any p q) : PtOk F E S (k + 1) any p q := by
  rcases h with h | ⟨h, i, j, h1, h2, h3⟩
  · exact .inl h
  · exact .inr ⟨h, i, j, h1, by omega, h3⟩
theorem PtOk.first {F : Int → Int → Bool} {E : Int → Int → Int} {S : Int} {k : Nat} (hf : F (S + (k : Int) * 3600000 / 4096) (S + ((k : Int) + 1) * 3600000 / 4096) = true) (he : E (S + (k : Int) * 3600000 / 4096) (S + ((k : Int) + 1) * 3600000 / 4096) = 0) :
    PtOk F E S (k + 1) true (S + (k : Int) * 3600000 / 4096) (S + ((k : Int) + 1) * 3600000 / 4096) := .inr ⟨rfl, k, k, Nat.le_refl _, by omega, rfl, rfl, hf, he, hf, he⟩
theorem PtOk.more {F : Int → Int → Bool} {E : Int → Int → Int} {S : Int} {k : Nat} {p q : Int} (h : PtOk F E S k true p q) (hf : F (S + (k : Int) * 3600000 / 4096) (S + ((k : Int) + 1) * 3600000 / 4096) = true) (he : E (S + (k : Int) * 3600000 / 4096) (S + ((k : Int) + 1) * 3600000 / 4096) = 0) :
    PtOk F E S (k + 1) true p (S + ((k : Int) + 1) * 3600000 / 4096) := by
  rcases h with ⟨h, _⟩ | ⟨h, i, j, h1, h2, h3, h4, h5, h6, h7, h8⟩
  · cases h
  · exact .inr ⟨rfl, i, k, by omega, by omega, h3, rfl, h5, h6, hf, he⟩
set_option maxHeartbeats 4000000 in
set_option maxRecDepth 100000 in
theorem mer_Transit (F : Int → Int → Bool) (E : Int → Int → Int) (bk : Nat) (s : ByteArray) (x f : Int) (w : World) (wf : (Lit.int .i64 f).wf = true)
    (hag : ∀ a b L, Calls Tryz.prog 110 #[.pointer (some ⟨bk, 0, none⟩), .string s, (.agg #[.int .i64 (x), .int .i64 (x)]), .int .i64 a, .int .i64 b] (lay w L) fun e w' => e = .returned (.tuple #[.bool (F a b), .int .i64 (E a b)]) ∧ ∃ d, w' = bw (lay w L) d) :
    Calls Tryz.prog 50 #[.pointer (some ⟨bk, 0, none⟩), .string s, (.agg #[.int .i64 (x), .int .i64 (x)]), .int .i64 f] w (TrPost F E f w) := by
  have HAg := Lib.hid hag
  have HX := Lib.hid (fun W => angle_Valid x x W)
  have hf0 : -9223372036854775808 ≤ f ∧ f ≤ 9223372036854775807 := by simpa [Lit.wf, IntKind.min, IntKind.max, IntKind.bits, IntKind.signed] using wf
  clear hag wf
  generalize validB x x = vx at *
  by_cases hb : vx = false ∨ f < -70368744177664 ∨ 70368646977664 < f
  · rcases hb with hb | hb | hb
    · subst hb
      refine lay_start ?_
      go_enter Tryz.func50, Tryz.ntmps50
      go_wp2_with (go_at_call 85; refine (HX.out _).mono ?_; rintro e w' ⟨rfl, d1, rfl⟩)
      all_goals exact bodyPost_ret (v := .tuple #[(.agg #[.int .i64 (0), .int .i64 (0)]), .int .i64 1]) (by simp [results, Tryz.results50, go_sem]) rfl (trPost_err (by decide) (lay_ex _ _))
    · cases vx
      · refine lay_start ?_
        go_enter Tryz.func50, Tryz.ntmps50
        go_wp2_with (go_at_call 85; refine (HX.out _).mono ?_; rintro e w' ⟨rfl, d1, rfl⟩)
        all_goals exact bodyPost_ret (v := .tuple #[(.agg #[.int .i64 (0), .int .i64 (0)]), .int .i64 1]) (by simp [results, Tryz.results50, go_sem]) rfl (trPost_err (by decide) (lay_ex _ _))
      · refine lay_start ?_
        go_enter Tryz.func50, Tryz.ntmps50
        go_wp2_with (go_at_call 85; refine (HX.out _).mono ?_; rintro e w' ⟨rfl, d1, rfl⟩)
        all_goals exact bodyPost_ret (v := .tuple #[(.agg #[.int .i64 (0), .int .i64 (0)]), .int .i64 1]) (by simp [results, Tryz.results50, go_sem]) rfl (trPost_err (by decide) (lay_ex _ _))
    · have hb2 : ¬ f < -70368744177664 := by omega
      cases vx
      · refine lay_start ?_
        go_enter Tryz.func50, Tryz.ntmps50
        go_wp2_with (go_at_call 85; refine (HX.out _).mono ?_; rintro e w' ⟨rfl, d1, rfl⟩)
        all_goals exact bodyPost_ret (v := .tuple #[(.agg #[.int .i64 (0), .int .i64 (0)]), .int .i64 1]) (by simp [results, Tryz.results50, go_sem]) rfl (trPost_err (by decide) (lay_ex _ _))
      · refine lay_start ?_
        go_enter Tryz.func50, Tryz.ntmps50
        go_wp2_with (go_at_call 85; refine (HX.out _).mono ?_; rintro e w' ⟨rfl, d1, rfl⟩)
        all_goals exact bodyPost_ret (v := .tuple #[(.agg #[.int .i64 (0), .int .i64 (0)]), .int .i64 1]) (by simp [results, Tryz.results50, go_sem]) rfl (trPost_err (by decide) (lay_ex _ _))
  · rw [not_or, not_or] at hb
    obtain ⟨b1, b2, b3⟩ := hb
    obtain rfl : vx = true := by simpa using b1
    have b4 : -70368744177664 ≤ f := by omega
    have b5 : f ≤ 70368646977664 := by omega
    clear hf0 b1
    refine lay_start ?_
    go_enter Tryz.func50, Tryz.ntmps50
    go_wp2_with (go_at_call 85; refine (HX.out _).mono ?_; rintro e w' ⟨rfl, d1, rfl⟩)
    go_loopw [10, 11, 12] (fun v10 v11 v12 wr => ∃ (k : Nat) (d : Ext) (S : Int) (fd : Bool), v10 = .int .i64 S ∧ v11 = .bool fd ∧ v12 = .int .i64 (k : Int) ∧ wr = lay w [.inr d, .inl (.cells #[.int .i64 0, .int .i64 0] 25 (0, 0)), .inl (.cells #[.int .i64 x, .int .i64 x] 33 (0, 0))] ∧ k ≤ 26 ∧
      ((fd = false ∧ HrNo F E f k) ∨ (fd = true ∧ ∃ K : Nat, k = K + 1 ∧ S = f + (K : Int) * 3600000 ∧ HrNo F E f K ∧ E (f + (K : Int) * 3600000) (f + (K : Int) * 3600000 + 3600000) = 0))) (fun _ _ v12 _ => 26 - (intOf v12).toNat)
    case atStart => exact ⟨0, _, f, false, rfl, rfl, rfl, Classical.choose_spec (lay_fold w [_] _), by omega, .inl ⟨rfl, fun m hm => absurd hm (Nat.not_lt_zero m)⟩⟩
    case round =>
      obtain ⟨k, d, S, fd, rfl, rfl, rfl, rfl, hk, hR⟩ := hrel
      rcases hR with ⟨rfl, hN⟩ | ⟨rfl, K, rfl, rfl, hN, hE0⟩
      · have HN := Lib.hid hN
        clear hN
        by_cases hlt : k ≤ 25
        · obtain ⟨A, hA⟩ : ∃ A, f + (k : Int) * 3600000 = A := ⟨_, rfl⟩
          have HA := Lib.hid hA
          have q1 : IntKind.i64.wrap ((k : Int) * 3600000) = (k : Int) * 3600000 := IntWalk.i64_in _ (by omega)
          have q2 : IntKind.i64.wrap (f + (k : Int) * 3600000) = A := by rw [← hA]; exact IntWalk.i64_in _ (by omega)
          have q3 : IntKind.i64.wrap (A + 3600000) = A + 3600000 := IntWalk.i64_in _ (by omega)
          have q4 : (k : Int) ≤ 25 := by omega
          have HG := Lib.hid (fun L => HAg.out A (A + 3600000) L)
          obtain ⟨Fv, hF⟩ : ∃ v, F A (A + 3600000) = v := ⟨_, rfl⟩
          obtain ⟨Ev, hE⟩ : ∃ v, E A (A + 3600000) = v := ⟨_, rfl⟩
          rw [hF, hE] at HG
          have HF := Lib.hid hF
          have HE := Lib.hid hE
          clear hF hE hA
          by_cases h0 : Ev = 0
          · subst h0
            go_wp2_with (go_at_call 110; refine (HG.out _).mono ?_; rintro e w' ⟨rfl, d2, rfl⟩)
            go_roundw
            case rel =>
              refine ⟨k + 1, _, A, Fv, rfl, rfl, by go_num, Classical.choose_spec (lay_fold w [_, _] _), by omega, ?_⟩
              cases Fv
              · exact .inl ⟨rfl, HN.out.step (by rw [HA.out]; exact HE.out) (by rw [HA.out]; exact HF.out)⟩
              · exact .inr ⟨rfl, k, rfl, HA.out.symm, HN.out, by rw [HA.out]; exact HE.out⟩
            case measure => simp [intOf]; omega
          · have e1 : (Ev != 0) = true := by simpa using h0
            have e2 : (Ev == 0) = false := beq_eq_false_iff_ne.2 h0
            have HEr := Lib.hid h0
            go_wp2_with (go_at_call 110; refine (HG.out _).mono ?_; rintro e w' ⟨rfl, d2, rfl⟩)
            exact bodyPost_ret (v := .tuple #[(.agg #[.int .i64 (0), .int .i64 (0)]), .int .i64 Ev]) (by simp [results, Tryz.results50, go_sem]) rfl (trPost_err HEr.out (lay_ex _ _))
        · have q4 : ¬ (k : Int) ≤ 25 := by omega
          go_wp2_with fail
          exact bodyPost_ret (v := .tuple #[(.agg #[.int .i64 (0), .int .i64 (0)]), .int .i64 12]) (by simp [results, Tryz.results50, go_sem]) rfl (trPost_err (by decide) (lay_ex _ _))
      · have HN := Lib.hid hN
        have HE0 := Lib.hid hE0
        clear hN hE0
        obtain ⟨S, hS⟩ : ∃ S, f + (K : Int) * 3600000 = S := ⟨_, rfl⟩
        have HS := Lib.hid hS
        have hS0 : -70368744177664 ≤ S ∧ S ≤ 70368736977664 := by omega
        rw [hS]
        clear hS
        have q3 : IntKind.i64.wrap (S + 3600000) = S + 3600000 := IntWalk.i64_in _ (by omega)
        have q4 : IntKind.i64.wrap (S + 7200000) = S + 7200000 := IntWalk.i64_in _ (by omega)
        have HG := Lib.hid (fun L => HAg.out (S + 3600000) (S + 7200000) L)
        generalize F (S + 3600000) (S + 7200000) = Fv at *
        generalize E (S + 3600000) (S + 7200000) = Ev at *
        rcases Int.lt_or_le 25 ((K : Int) + 1) with hK | hK
        all_goals
          by_cases h0 : Ev = 0
          · subst h0
            go_wp2_with (go_at_call 110; refine (HG.out _).mono ?_; rintro e w' ⟨rfl, d2, rfl⟩)
            clear HG
            go_loopw [18, 87] (fun v18 v87 wr => ∃ (k : Nat) (e : Ext) (any : Bool) (p q : Int), v18 = .bool any ∧ v87 = .int .i64 (k : Int) ∧ wr = lay w [.inr e, .inl (.cells #[.int .i64 p, .int .i64 q] 25 (0, 0)), .inr d2, .inr d, .inl (.cells #[.int .i64 0, .int .i64 0] 25 (0, 0)), .inl (.cells #[.int .i64 x, .int .i64 x] 33 (0, 0))] ∧ k ≤ 8192 ∧ PtOk F E S k any p q) (fun _ v87 _ => 8192 - (intOf v87).toNat)
            case atStart => exact ⟨0, noExt _, false, 0, 0, rfl, rfl, (bw_noExt _).symm, by omega, .inl ⟨rfl, rfl, rfl⟩⟩
            case round =>
              obtain ⟨k, e, any, p, q, rfl, rfl, rfl, hk2, hP⟩ := hrel
              have HP := Lib.hid hP
              clear hP
              by_cases hlt : k < 8192
              · obtain ⟨A, hA⟩ : ∃ A, S + (k : Int) * 3600000 / 4096 = A := ⟨_, rfl⟩
                obtain ⟨B, hB⟩ : ∃ B, S + ((k : Int) + 1) * 3600000 / 4096 = B := ⟨_, rfl⟩
                have p1 : IntKind.i64.wrap ((k : Int) * 3600000) = (k : Int) * 3600000 := IntWalk.i64_in _ (by omega)
                have p2 : ((k : Int) * 3600000).tdiv 4096 = (k : Int) * 3600000 / 4096 := Int.tdiv_eq_ediv_of_nonneg (by omega)
                have p3 : IntKind.i64.wrap (S + (k : Int) * 3600000 / 4096) = A := by rw [← hA]; exact IntWalk.i64_in _ (by omega)
                have p4 : IntKind.i64.wrap ((k : Int) + 1) = (k : Int) + 1 := IntWalk.i64_in _ (by omega)
                have p5 : IntKind.i64.wrap (((k : Int) + 1) * 3600000) = ((k : Int) + 1) * 3600000 := IntWalk.i64_in _ (by omega)
                have p6 : (((k : Int) + 1) * 3600000).tdiv 4096 = ((k : Int) + 1) * 3600000 / 4096 := Int.tdiv_eq_ediv_of_nonneg (by omega)
                have p7 : IntKind.i64.wrap (S + ((k : Int) + 1) * 3600000 / 4096) = B := by rw [← hB]; exact IntWalk.i64_in _ (by omega)
                have HA := Lib.hid hA
                have HB := Lib.hid hB
                have HG := Lib.hid (fun L => HAg.out A B L)
                obtain ⟨Fv, hF⟩ : ∃ v, F A B = v := ⟨_, rfl⟩
                obtain ⟨Ev, hE⟩ : ∃ v, E A B = v := ⟨_, rfl⟩
                rw [hF, hE] at HG
                have HF := Lib.hid hF
                have HE := Lib.hid hE
                have x1 : (k : Int) < 8192 := by omega
                clear hF hE hA hB
                by_cases h0 : Ev = 0
                · subst h0
                  cases Fv
                  · go_wp2_with (go_at_call 110; refine (HG.out _).mono ?_; rintro e w' ⟨rfl, d3, rfl⟩)
                    go_roundw
                    case rel => exact ⟨k + 1, _, any, p, q, rfl, by go_num, Classical.choose_spec (lay_fold w [_, _] _), by omega, HP.out.miss⟩
                    case measure => simp [intOf]; omega
                  · cases any
                    · have HQ : Hid (PtOk F E S (k + 1) true A B) := Lib.hid (by
                        have := PtOk.first (F := F) (E := E) (S := S) (k := k) (by rw [HA.out, HB.out]; exact HF.out) (by rw [HA.out, HB.out]; exact HE.out)
                        rw [HA.out, HB.out] at this; exact this)
                      go_wp2_with (go_at_call 110; refine (HG.out _).mono ?_; rintro e w' ⟨rfl, d3, rfl⟩)
                      go_roundw
                      case rel => exact ⟨k + 1, _, true, A, B, rfl, by go_num, Classical.choose_spec (lay_fold w [_, _] _), by omega, HQ.out⟩
                      case measure => simp [intOf]; omega
                    · have HQ : Hid (PtOk F E S (k + 1) true p B) := Lib.hid (by
                        have := PtOk.more HP.out (by rw [HA.out, HB.out]; exact HF.out) (by rw [HA.out, HB.out]; exact HE.out)
                        rw [HB.out] at this; exact this)
                      go_wp2_with (go_at_call 110; refine (HG.out _).mono ?_; rintro e w' ⟨rfl, d3, rfl⟩)
                      go_roundw
                      case rel => exact ⟨k + 1, _, true, p, B, rfl, by go_num, Classical.choose_spec (lay_fold w [_, _] _), by omega, HQ.out⟩
                      case measure => simp [intOf]; omega
                · have e1 : (Ev != 0) = true := by simpa using h0
                  have e2 : (Ev == 0) = false := beq_eq_false_iff_ne.2 h0
                  have HEr := Lib.hid h0
                  go_wp2_with (go_at_call 110; refine (HG.out _).mono ?_; rintro e w' ⟨rfl, d3, rfl⟩)
                  exact bodyPost_ret (v := .tuple #[(.agg #[.int .i64 (0), .int .i64 (0)]), .int .i64 Ev]) (by simp [results, Tryz.results50, go_sem]) rfl (trPost_err HEr.out (lay_ex _ _))
              · have x1 : ¬ (k : Int) < 8192 := by omega
                cases any
                · go_wp2_with fail
                  exact bodyPost_ret (v := .tuple #[(.agg #[.int .i64 (0), .int .i64 (0)]), .int .i64 12]) (by simp [results, Tryz.results50, go_sem]) rfl (trPost_err (by decide) (lay_ex _ _))
                · have HT : Hid (∃ i j : Nat, TrOk F E f K i j ∧ p = f + (K : Int) * 3600000 + (i : Int) * 3600000 / 4096 ∧ q = f + (K : Int) * 3600000 + ((j : Int) + 1) * 3600000 / 4096) := Lib.hid (by
                    rcases HP.out with ⟨h, _⟩ | ⟨_, i, j, h1, h2, h3, h4, h5, h6, h7, h8⟩
                    · cases h
                    · rw [← HS.out] at h3 h4 h5 h6 h7 h8
                      exact ⟨i, j, ⟨b4, b5, by omega, HN.out, HE0.out, h1, by omega, h5, h6, h7, h8⟩, h3, h4⟩)
                  go_wp2_with fail
                  obtain ⟨i, j, ht, hp, hq⟩ := HT.out
                  exact bodyPost_ret (v := .tuple #[(.agg #[.int .i64 (p), .int .i64 (q)]), .int .i64 0]) (by simp [results, Tryz.results50, go_sem]) rfl (trPost_ok ht hp hq (lay_ex _ _))
          · have e1 : (Ev != 0) = true := by simpa using h0
            have e2 : (Ev == 0) = false := beq_eq_false_iff_ne.2 h0
            have HEr := Lib.hid h0
            go_wp2_with (go_at_call 110; refine (HG.out _).mono ?_; rintro e w' ⟨rfl, d2, rfl⟩)
            exact bodyPost_ret (v := .tuple #[(.agg #[.int .i64 (0), .int .i64 (0)]), .int .i64 Ev]) (by simp [results, Tryz.results50, go_sem]) rfl (trPost_err HEr.out (lay_ex _ _))
end Go.Proofs.YtlkphcjlgbimkaaGreat

/- Contracts and plain laws, several texts in one: Nw3; Lwh; Lho; Sub; Agr; Stp -/
import Derived.Test.YtjfpgpipbooilaaGreatProg
import Derived.WalkKit
import Derived.WalkSpells
import Derived.WalkLawsBesides
import Derived.Lib.Hide
import Derived.BigQuiet
import Derived.Test.YtjfpgpipbooilaaGreatVAA
import Derived.Test.YtjfpgpipbooilaaGreatVAB
import Derived.Test.YtjfpgpipbooilaaGreatVBD
import Derived.Test.YtjfpgpipbooilaaGreatVBG
import Derived.Test.YtjfpgpipbooilaaGreatVBN
import Derived.Test.YtjfpgpipbooilaaGreatVBR
import Derived.Test.YtjfpgpipbooilaaGreatVBS
/- The example of chapter 17 (awake); right. -/
namespace Go.Proofs.YtjfpgpipbooilaaGreat
open Go.RowKit Go.Shelf

def vegaS : ByteArray := ⟨#[86, 101, 103, 97]⟩
def vegaV : StarV := ⟨vegaS, 48000, 0, 0⟩
theorem vega_name : nameB vegaS = true := by
  refine nameB_iff.2 ⟨by decide, by decide, fun i hi => ?_, by decide⟩
  have h4 : i < 4 := hi
  match i, h4 with
  | 0, _ => decide
  | 1, _ => decide
  | 2, _ => decide
  | 3, _ => decide
theorem vega_cat : catB [vegaV] = true := by
  refine catB_iff.2 ⟨by decide, fun i x hx => ?_⟩
  cases i with
  | zero =>
    simp only [List.getElem?_cons_zero, Option.some.injEq] at hx
    subst hx
    refine ⟨vega_name, by decide, ?_⟩
    show (if (vegaS.toList == vegaS.toList) then ((0 : Nat) : Int) else _) = _
    rw [if_pos (beq_self_eq_true _)]
  | succ i => simp at hx
theorem vega_find : fndS [vegaV] vegaS = ((0 : Nat) : Int) := by
  show (if (vegaS.toList == vegaS.toList) then ((0 : Nat) : Int) else _) = _
  rw [if_pos (beq_self_eq_true _)]
theorem vega_list : vegaS.toList = [86, 101, 103, 97] := by rw [ByteArray.toList_eq]; rfl
theorem vega_lit (w : World) (L : List (Obj ⊕ Ext)) : SlG stR (lay w (.inl (.cells #[.string vegaS, .int .i64 48000, .int .i64 0, .int .i64 0] 75 (0, 0)) :: L)) (.slice (some ⟨posn w (shp L), 0, none⟩) 1 1) [vegaV] :=
  (owG_lit stOk [vegaV] rfl (by decide) (by intro x hx; rw [List.mem_singleton.1 hx]; exact ⟨by decide, by decide, by decide, by decide⟩)).sl stOk
end Go.Proofs.YtjfpgpipbooilaaGreat
/- The laws AlmanacWhere and AlmanacHours. -/
namespace Go.Proofs.YtjfpgpipbooilaaGreat
open Go.RowKit Go.Shelf

theorem gv_eta (G : GeoV) : gv G = (.agg #[.int .i64 (G.a), .int .i64 (G.b), .int .i64 (G.c), .int .i64 (G.d), .int .i64 (G.e), .int .i64 (G.f), .int .i64 (G.g), .int .i64 (G.h)]) := rfl
theorem rfL_of {P : Nat → Prop} {w : World} {vp vs : Value} {lp : List PgV} {ls : List StarV} (hp : PgsD P w vp lp) (hv : SlG stR w vs ls) (k : NewOk lp ls) : RfL P w vp vs lp ls := ⟨hp, hv, k.ok, k.few, k.cat⟩
theorem RfL.lay {P : Nat → Prop} {w : World} {vp vs : Value} {lp : List PgV} {ls : List StarV} (h : RfL P w vp vs lp ls) (L : List (Obj ⊕ Ext)) : RfL P (lay w L) vp vs lp ls := ⟨h.pgs.lay L, h.sts.lay L, h.ok, h.few, h.cat⟩
end Go.Proofs.YtjfpgpipbooilaaGreat
/- The local hour angle: the program's and the reference's; the law AlmanacHours. -/
namespace Go.Proofs.YtjfpgpipbooilaaGreat
open Go.RowKit Go.Shelf

theorem bodyR_tf {lp : List PgV} {s : ByteArray} {a b : Int} (hok : ∀ p ∈ lp, PgOk p) (h : (bodyR lp s a b).2 = 0) : TF (bodyR lp s a b).1.a (bodyR lp s a b).1.b := by
  cases h1 : trkAt lp s (a / 86400000) with
  | none => rw [bodyR_no h1] at h; cases h
  | some t =>
    have o1 := trkAt_ok hok h1
    by_cases e : a / 86400000 = b / 86400000
    · rw [bodyR_one h1 e]; exact tf_turn (ghaO_le o1 _ _)
    · cases h2 : trkAt lp s (b / 86400000) with
      | none => rw [bodyR_no2 h1 e h2] at h; cases h
      | some u =>
        have o2 := trkAt_ok hok h2
        rw [bodyR_two h1 e h2]
        exact tf_turn (validB_iff.1 (hul_valid (tf_turn (ghaO_le o1 _ _)) (tf_turn (ghaO_le o2 _ _)))).1
theorem whR_tf {lp : List PgV} {ls : List StarV} {s : ByteArray} {a b : Int} (hok : ∀ p ∈ lp, PgOk p) (h : (whR lp ls s a b).2 = 0) : TF (whR lp ls s a b).1.a (whR lp ls s a b).1.b := by
  cases whW lp ls s a b with
  | bad k => rw [whR_bad k] at h; cases h
  | name t k => rw [whR_name t k] at h; cases h
  | wide t k d => rw [whR_wide t k d] at h; cases h
  | aries t d k => rw [whR_aries t d k]; exact tf_turn (ariF_le (timB_iff.1 t).1)
  | star i x t d k f g e =>
    rw [whR_star t d k f e]
    have := ag_bd (timB_iff.1 t).1
    exact tf_turn (by omega)
  | body t d k f g c =>
    rw [whR_body t d k g c] at h ⊢
    exact bodyR_tf hok h
noncomputable def lhaE (lp : List PgV) (ls : List StarV) (s : ByteArray) (a b x y : Int) : Int := if timB a b = false ∨ validB x y = false then 1 else (whR lp ls s a b).2
noncomputable def lhaL (lp : List PgV) (ls : List StarV) (s : ByteArray) (a b x y : Int) : Int := if lhaE lp ls s a b x y = 0 then turnLo ((whR lp ls s a b).1.a + turnLo x y) ((whR lp ls s a b).1.b + turnHi x y) else 0
noncomputable def lhaH (lp : List PgV) (ls : List StarV) (s : ByteArray) (a b x y : Int) : Int := if lhaE lp ls s a b x y = 0 then turnHi ((whR lp ls s a b).1.a + turnLo x y) ((whR lp ls s a b).1.b + turnHi x y) else 0
set_option maxHeartbeats 4000000 in
set_option maxRecDepth 100000 in
theorem made_Lha {w : World} {bk : Nat} {lp : List PgV} {ls : List StarV} {W : World} (h : BkA w bk lp ls W) (k : NewOk lp ls) (s : ByteArray) (a b x y : Int) (L : List (Obj ⊕ Ext)) :
    Calls Tryz.prog 17 #[.pointer (some ⟨bk, 0, none⟩), .string s, (.agg #[.int .i64 (a), .int .i64 (b)]), (.agg #[.int .i64 (x), .int .i64 (y)])] (lay W L) fun e w' => e = .returned (.tuple #[(.agg #[.int .i64 (lhaL lp ls s a b x y), .int .i64 (lhaH lp ls s a b x y)]), .int .i64 (lhaE lp ls s a b x y)]) ∧ ∃ d, w' = bw (lay W L) d := by
  have HW := made_Where (h.bw L) k
  have HW2 := Lib.hid (fun L => HW.out s a b L)
  rw [gv_eta] at HW2
  have htf := whR_tf (lp := lp) (ls := ls) (s := s) (a := a) (b := b) k.ok
  have HV := Lib.hid (fun W => clock_Valid a b W)
  have HX := Lib.hid (fun W => angle_Valid x y W)
  have hvx := validB_iff (lo := x) (hi := y)
  have hE : lhaE lp ls s a b x y = if timB a b = false ∨ validB x y = false then 1 else (whR lp ls s a b).2 := rfl
  have hL : lhaL lp ls s a b x y = if lhaE lp ls s a b x y = 0 then turnLo ((whR lp ls s a b).1.a + turnLo x y) ((whR lp ls s a b).1.b + turnHi x y) else 0 := rfl
  have hH : lhaH lp ls s a b x y = if lhaE lp ls s a b x y = 0 then turnHi ((whR lp ls s a b).1.a + turnLo x y) ((whR lp ls s a b).1.b + turnHi x y) else 0 := rfl
  clear HW h k
  generalize lhaL lp ls s a b x y = RL at *
  generalize lhaH lp ls s a b x y = RH at *
  generalize lhaE lp ls s a b x y = RE at *
  generalize (whR lp ls s a b).1 = G at *
  generalize (whR lp ls s a b).2 = E at *
  obtain ⟨r1, r2, r3, r4, r5, r6, r7, r8⟩ := G
  dsimp only at *
  generalize lay W L = w at *
  generalize timB a b = vt at *
  cases vt
  · rw [if_pos (.inl rfl)] at hE
    subst hE
    rw [if_neg (by decide)] at hL hH
    subst hL hH
    clear htf hvx HW2
    refine lay_start ?_
    go_enter Tryz.func17, Tryz.ntmps17
    go_wp2_with (first | (go_at_call 36; refine (HV.out _).mono ?_; rintro e w' ⟨rfl, dV, rfl⟩))
    all_goals exact bodyPost_ret (v := .tuple #[(.agg #[.int .i64 (0), .int .i64 (0)]), .int .i64 1]) (by simp [results, Tryz.results17, go_sem]) rfl ⟨rfl, lay_ex _ _⟩
  · cases hx : validB x y
    · rw [hx] at HX
      rw [if_pos (.inr hx)] at hE
      subst hE
      rw [if_neg (by decide)] at hL hH
      subst hL hH
      clear htf hvx HW2 hx
      refine lay_start ?_
      go_enter Tryz.func17, Tryz.ntmps17
      go_wp2_with (first | (go_at_call 36; refine (HV.out _).mono ?_; rintro e w' ⟨rfl, dV, rfl⟩) | (go_at_call 30; refine (HX.out _).mono ?_; rintro e w' ⟨rfl, dX, rfl⟩))
      all_goals exact bodyPost_ret (v := .tuple #[(.agg #[.int .i64 (0), .int .i64 (0)]), .int .i64 1]) (by simp [results, Tryz.results17, go_sem]) rfl ⟨rfl, lay_ex _ _⟩
    · rw [hx] at HX
      rw [if_neg (by rw [hx]; simp)] at hE
      subst hE
      by_cases h0 : RE = 0
      · rw [if_pos h0] at hL hH
        obtain ⟨t0, t1, t2, t3⟩ := htf h0
        obtain ⟨v1, v2, v3⟩ := hvx.1 hx
        subst h0
        have bt := turn_bd v1
        have HT1 := Lib.hid (fun W => angle_Turn x y W hx)
        have HA := Lib.hid (fun W => angle_Add r1 r2 (turnLo x y) (turnHi x y) W (validB_iff.2 (by omega)) (validB_iff.2 (by omega)) (validB_iff.2 (by omega)))
        have HT2 := Lib.hid (fun W => angle_Turn (r1 + turnLo x y) (r2 + turnHi x y) W (validB_iff.2 (by omega)))
        rw [← hL, ← hH] at HT2
        clear hL hH hvx hx htf bt
        generalize turnLo x y = p at *
        generalize turnHi x y = q at *
        refine lay_start ?_
        go_enter Tryz.func17, Tryz.ntmps17
        go_wp2_with (first | (go_at_call 36; refine (HV.out _).mono ?_; rintro e w' ⟨rfl, dV, rfl⟩) | (go_at_call 30; refine (HX.out _).mono ?_; rintro e w' ⟨rfl, dX, rfl⟩) | (go_at_call 19; refine (HW2.out _).mono ?_; rintro e w' ⟨rfl, dW, rfl⟩) | (go_at_call 37; (with_reducible refine (HT1.out _).mono ?_); rintro e w' ⟨rfl, d1, rfl⟩) | (go_at_call 37; (with_reducible refine (HT2.out _).mono ?_); rintro e w' ⟨rfl, d2, rfl⟩) | (go_at_call 38; refine (HA.out _).mono ?_; rintro e w' ⟨rfl, d3, rfl⟩))
        all_goals exact bodyPost_ret (v := .tuple #[(.agg #[.int .i64 (RL), .int .i64 (RH)]), .int .i64 0]) (by simp [results, Tryz.results17, go_sem]) rfl ⟨rfl, lay_ex _ _⟩
      · rw [if_neg h0] at hL hH
        subst hL hH
        have e1 : (RE != 0) = true := by simpa using h0
        have e2 : (RE == 0) = false := beq_eq_false_iff_ne.2 h0
        clear htf hvx hx
        refine lay_start ?_
        go_enter Tryz.func17, Tryz.ntmps17
        go_wp2_with (first | (go_at_call 36; refine (HV.out _).mono ?_; rintro e w' ⟨rfl, dV, rfl⟩) | (go_at_call 30; refine (HX.out _).mono ?_; rintro e w' ⟨rfl, dX, rfl⟩) | (go_at_call 19; refine (HW2.out _).mono ?_; rintro e w' ⟨rfl, dW, rfl⟩))
        all_goals exact bodyPost_ret (v := .tuple #[(.agg #[.int .i64 (0), .int .i64 (0)]), .int .i64 RE]) (by simp [results, Tryz.results17, go_sem]) rfl ⟨rfl, lay_ex _ _⟩
end Go.Proofs.YtjfpgpipbooilaaGreat
/- The value over a part of a span lies within the value over the span. No program in sight. -/
namespace Go.Proofs.YtjfpgpipbooilaaGreat
open Go.RowKit

theorem hullL_le {l : List (Int × Int)} : ∀ y ∈ l, (hullL l).1 ≤ y.1 ∧ y.2 ≤ (hullL l).2 := by
  cases l with
  | nil => intro y hy; cases hy
  | cons x l =>
    have key : ∀ (l : List (Int × Int)) x, ((l.foldl hull2 x).1 ≤ x.1 ∧ x.2 ≤ (l.foldl hull2 x).2) ∧ ∀ y ∈ l, (l.foldl hull2 x).1 ≤ y.1 ∧ y.2 ≤ (l.foldl hull2 x).2 := by
      intro l
      induction l with
      | nil => exact fun x => ⟨⟨Int.le_refl _, Int.le_refl _⟩, fun y hy => by cases hy⟩
      | cons z l ih =>
        intro x
        obtain ⟨h1, h2⟩ := ih (hull2 x z)
        have e1 : (hull2 x z).1 ≤ x.1 ∧ (hull2 x z).1 ≤ z.1 ∧ x.2 ≤ (hull2 x z).2 ∧ z.2 ≤ (hull2 x z).2 := by unfold hull2; dsimp only; omega
        refine ⟨⟨by show (l.foldl hull2 (hull2 x z)).1 ≤ _; omega, by show _ ≤ (l.foldl hull2 (hull2 x z)).2; omega⟩, fun y hy => ?_⟩
        rcases List.mem_cons.1 hy with rfl | hy
        · exact ⟨by show (l.foldl hull2 (hull2 x y)).1 ≤ _; omega, by show _ ≤ (l.foldl hull2 (hull2 x y)).2; omega⟩
        · exact h2 y hy
    intro y hy
    rcases List.mem_cons.1 hy with rfl | hy
    · exact (key l y).1
    · exact (key l x).2 y hy
theorem ins_lin (A : Int → Int × Int) (h n : Int) (n0 : 0 ≤ n) (n1 : n ≤ 3600000) :
    insL A (h * 3600000 + n) = ((A h).1 * (3600000 - n) + (A (h + 1)).1 * n) / 3600000 ∧ insH A (h * 3600000 + n) = cdiv ((A h).2 * (3600000 - n) + (A (h + 1)).2 * n) 3600000 := by
  unfold insL insH
  by_cases e0 : n = 0
  · subst e0
    rw [if_pos (by omega), if_pos (by omega), show (h * 3600000 + 0) / 3600000 = h by omega]
    unfold cdiv; omega
  · by_cases e1 : n = 3600000
    · subst e1
      rw [if_pos (by omega), if_pos (by omega), show (h * 3600000 + 3600000) / 3600000 = h + 1 by omega]
      unfold cdiv; omega
    · rw [if_neg (by omega), if_neg (by omega), show (h * 3600000 + n) / 3600000 = h by omega, show (h * 3600000 + n) % 3600000 = n by omega]
      exact ⟨rfl, rfl⟩
theorem aff_ge {x0 x1 n n1 n2 : Int} (h1 : n1 ≤ n) (h2 : n ≤ n2) : x0 * (3600000 - n1) + x1 * n1 ≤ x0 * (3600000 - n) + x1 * n ∨ x0 * (3600000 - n2) + x1 * n2 ≤ x0 * (3600000 - n) + x1 * n := by
  rcases Int.le_total x0 x1 with h | h
  · left
    have := Int.mul_le_mul_of_nonneg_left h1 (show 0 ≤ x1 - x0 by omega)
    simp only [Int.mul_sub, Int.sub_mul] at *; omega
  · right
    have := Int.mul_le_mul_of_nonneg_left h2 (show 0 ≤ x0 - x1 by omega)
    simp only [Int.mul_sub, Int.sub_mul] at *; omega
theorem aff_le {x0 x1 n n1 n2 : Int} (h1 : n1 ≤ n) (h2 : n ≤ n2) : x0 * (3600000 - n) + x1 * n ≤ x0 * (3600000 - n1) + x1 * n1 ∨ x0 * (3600000 - n) + x1 * n ≤ x0 * (3600000 - n2) + x1 * n2 := by
  rcases Int.le_total x0 x1 with h | h
  · right
    have := Int.mul_le_mul_of_nonneg_left h2 (show 0 ≤ x1 - x0 by omega)
    simp only [Int.mul_sub, Int.sub_mul] at *; omega
  · left
    have := Int.mul_le_mul_of_nonneg_left h1 (show 0 ≤ x0 - x1 by omega)
    simp only [Int.mul_sub, Int.sub_mul] at *; omega
theorem ins_hour (A : Int → Int × Int) (h : Int) : insL A (h * 3600000) = (A h).1 ∧ insH A (h * 3600000) = (A h).2 := by
  unfold insL insH
  rw [if_pos (by omega), if_pos (by omega), show h * 3600000 / 3600000 = h by omega]; exact ⟨rfl, rfl⟩
theorem pcs_at (A : Int → Int × Int) {lo hi e : Int} (h1 : lo ≤ e) (h2 : e ≤ hi) (he : e = lo ∨ e = hi ∨ e % 3600000 = 0) : (hullL (pcs A lo hi)).1 ≤ insL A e ∧ insH A e ≤ (hullL (pcs A lo hi)).2 := by
  by_cases e1 : e = lo
  · subst e1; exact hullL_le (insL A e, insH A e) (by simp [pcs])
  · by_cases e2 : e = hi
    · subst e2; exact hullL_le (insL A e, insH A e) (by simp [pcs])
    · have e3 : e % 3600000 = 0 := by omega
      have hk := ins_hour A (e / 3600000)
      rw [show e / 3600000 * 3600000 = e by omega] at hk
      rw [hk.1, hk.2]
      refine hullL_le (A (e / 3600000)) (List.mem_append.2 (.inr (List.mem_map.2 ⟨(e / 3600000 - (lo / 3600000 + 1)).toNat, List.mem_range.2 ?_, ?_⟩)))
      · unfold nhr cdiv; omega
      · show A _ = _
        rw [show lo / 3600000 + 1 + ((e / 3600000 - (lo / 3600000 + 1)).toNat : Int) = e / 3600000 by omega]
theorem ins_sub (A : Int → Int × Int) {lo hi ms : Int} (h1 : lo ≤ ms) (h2 : ms ≤ hi) : (hullL (pcs A lo hi)).1 ≤ insL A ms ∧ insH A ms ≤ (hullL (pcs A lo hi)).2 := by
  obtain ⟨h, hh⟩ : ∃ h, ms / 3600000 = h := ⟨_, rfl⟩
  have k1 := pcs_at A (lo := lo) (hi := hi) (e := max lo (h * 3600000)) (by omega) (by omega) (by omega)
  have k2 := pcs_at A (lo := lo) (hi := hi) (e := min hi ((h + 1) * 3600000)) (by omega) (by omega) (by omega)
  obtain ⟨n1, hn1⟩ : ∃ n1, max lo (h * 3600000) = h * 3600000 + n1 := ⟨max lo (h * 3600000) - h * 3600000, by omega⟩
  obtain ⟨n2, hn2⟩ : ∃ n2, min hi ((h + 1) * 3600000) = h * 3600000 + n2 := ⟨min hi ((h + 1) * 3600000) - h * 3600000, by omega⟩
  obtain ⟨n, hn⟩ : ∃ n, ms = h * 3600000 + n := ⟨ms - h * 3600000, by omega⟩
  have l1 := ins_lin A h n1 (by omega) (by omega)
  have l2 := ins_lin A h n2 (by omega) (by omega)
  have l := ins_lin A h n (by omega) (by omega)
  rw [hn1, l1.1, l1.2] at k1
  rw [hn2, l2.1, l2.2] at k2
  rw [hn, l.1, l.2]
  have g1 := aff_ge (x0 := (A h).1) (x1 := (A (h + 1)).1) (n := n) (n1 := n1) (n2 := n2) (by omega) (by omega)
  have g2 := aff_le (x0 := (A h).2) (x1 := (A (h + 1)).2) (n := n) (n1 := n1) (n2 := n2) (by omega) (by omega)
  generalize (A h).1 * (3600000 - n) + (A (h + 1)).1 * n = X at *
  generalize (A h).1 * (3600000 - n1) + (A (h + 1)).1 * n1 = X1 at *
  generalize (A h).1 * (3600000 - n2) + (A (h + 1)).1 * n2 = X2 at *
  generalize (A h).2 * (3600000 - n) + (A (h + 1)).2 * n = Y at *
  generalize (A h).2 * (3600000 - n1) + (A (h + 1)).2 * n1 = Y1 at *
  generalize (A h).2 * (3600000 - n2) + (A (h + 1)).2 * n2 = Y2 at *
  unfold cdiv at *
  omega
theorem pcs_sub (A : Int → Int × Int) {lo hi f t : Int} (h1 : lo ≤ f) (h2 : f ≤ t) (h3 : t ≤ hi) : (hullL (pcs A lo hi)).1 ≤ (hullL (pcs A f t)).1 ∧ (hullL (pcs A f t)).2 ≤ (hullL (pcs A lo hi)).2 := by
  refine hullL_ind (P := fun x => (hullL (pcs A lo hi)).1 ≤ x.1 ∧ x.2 ≤ (hullL (pcs A lo hi)).2) (fun x y hx hy => by unfold hull2; dsimp only at *; omega) (pcs_ne _ _ _) fun y hy => ?_
  rcases pcs_mem hy with rfl | rfl | ⟨i, hi', rfl⟩
  · exact ins_sub A h1 (by omega)
  · exact ins_sub A (by omega) h3
  · have hk := ins_hour A (f / 3600000 + 1 + i)
    rw [← hk.1, ← hk.2]
    have := nhr_lt hi'
    exact ins_sub A (by omega) (by omega)
theorem ovr_sub (A : Int → Int × Int) {lo hi f t r : Int} (r0 : 0 ≤ r) (h1 : lo ≤ f) (h2 : f ≤ t) (h3 : t ≤ hi) : (ovr A lo hi r).1 ≤ (ovr A f t r).1 ∧ (ovr A f t r).2 ≤ (ovr A lo hi r).2 := by
  have k := pcs_sub A h1 h2 h3
  have m0 : 0 ≤ cdiv (100 * r) 8 := by unfold cdiv; omega
  unfold ovr
  by_cases c1 : lo = hi ∧ lo % 3600000 = 0
  · have : f = t ∧ f % 3600000 = 0 := by omega
    rw [if_pos c1, if_pos this]; exact k
  · rw [if_neg c1]
    split
    · dsimp only; omega
    · dsimp only; omega
end Go.Proofs.YtjfpgpipbooilaaGreat
/- angle.Agree. -/
namespace Go.Proofs.YtjfpgpipbooilaaGreat
open Go.RowKit

def agrB (a0 a1 b0 b1 : Int) : Bool := decide ((b0 - a0) % 21600000 ≤ a1 - a0) || decide ((a0 - b0) % 21600000 ≤ b1 - b0)
set_option maxHeartbeats 1000000 in
theorem angle_Agree (a0 a1 b0 b1 : Int) (w : World) (va : validB a0 a1 = true) (vb : validB b0 b1 = true) :
    Calls Tryz.prog 32 #[(.agg #[.int .i64 (a0), .int .i64 (a1)]), (.agg #[.int .i64 (b0), .int .i64 (b1)])] w fun e w' => e = .returned (.tuple #[.bool (agrB a0 a1 b0 b1), .int .i64 0]) ∧ ∃ d, w' = bw w d := by
  have HV1 : Hid (∀ W, Calls Tryz.prog 30 #[(.agg #[.int .i64 (a0), .int .i64 (a1)])] W fun e w' => e = .returned (.bool true) ∧ ∃ d, w' = bw W d) := Lib.hid (fun W => by rw [← va]; exact angle_Valid a0 a1 W)
  have HV2 : Hid (∀ W, Calls Tryz.prog 30 #[(.agg #[.int .i64 (b0), .int .i64 (b1)])] W fun e w' => e = .returned (.bool true) ∧ ∃ d, w' = bw W d) := Lib.hid (fun W => by rw [← vb]; exact angle_Valid b0 b1 W)
  obtain ⟨p0, p1, p2⟩ := validB_iff.1 va
  obtain ⟨p3, p4, p5⟩ := validB_iff.1 vb
  have w1 : IntKind.i64.wrap (b0 - a0) = b0 - a0 := IntWalk.i64_in _ (by omega)
  have w2 : IntKind.i64.wrap (a1 - a0) = a1 - a0 := IntWalk.i64_in _ (by omega)
  have w3 : IntKind.i64.wrap (a0 - b0) = a0 - b0 := IntWalk.i64_in _ (by omega)
  have w4 : IntKind.i64.wrap (b1 - b0) = b1 - b0 := IntWalk.i64_in _ (by omega)
  have HW1 := Lib.hid (fun W => angle_Wrap (b0 - a0) W)
  have HW2 := Lib.hid (fun W => angle_Wrap (a0 - b0) W)
  unfold agrB
  clear va vb
  by_cases h1 : (b0 - a0) % 21600000 ≤ a1 - a0
  · have t1 : decide ((b0 - a0) % 21600000 ≤ a1 - a0) = true := decide_eq_true h1
    rw [t1, Bool.true_or]
    clear h1
    generalize (b0 - a0) % 21600000 = X at *
    refine lay_start ?_
    go_enter Tryz.func32, Tryz.ntmps32
    go_wp2_with (go_at_call 30; first | (with_reducible refine (HV1.out _).mono ?_; rintro e w' ⟨rfl, d, rfl⟩) | (with_reducible refine (HV2.out _).mono ?_; rintro e w' ⟨rfl, d, rfl⟩))
    refine region_bw (by kernel_rfl) (by kernel_rfl) ?_
    repeat (go_big_quiet_step ((first | (go_at_call 76; exact bqs (HW1.out _) ⟨_, rfl⟩))))
    refine wpQuiet_nil ?_
    rintro w' ⟨d, rfl⟩
    rw [lay_bw]
    go_wp2
    go_ret2
    exact ⟨rfl, lay_ex _ _⟩
  · have t1 : decide ((b0 - a0) % 21600000 ≤ a1 - a0) = false := decide_eq_false h1
    rw [t1, Bool.false_or]
    clear h1
    generalize (b0 - a0) % 21600000 = X at *
    generalize (a0 - b0) % 21600000 = Y at *
    refine lay_start ?_
    go_enter Tryz.func32, Tryz.ntmps32
    go_wp2_with (go_at_call 30; first | (with_reducible refine (HV1.out _).mono ?_; rintro e w' ⟨rfl, d, rfl⟩) | (with_reducible refine (HV2.out _).mono ?_; rintro e w' ⟨rfl, d, rfl⟩))
    refine region_bw (by kernel_rfl) (by kernel_rfl) ?_
    repeat (go_big_quiet_step ((first | (go_at_call 76; first | (with_reducible refine bqs (HW1.out _) ?_; exact ⟨_, rfl⟩) | (with_reducible refine bqs (HW2.out _) ?_; exact ⟨_, rfl⟩)))))
    refine wpQuiet_nil ?_
    rintro w' ⟨d, rfl⟩
    rw [lay_bw]
    go_wp2
    go_ret2
    exact ⟨rfl, lay_ex _ _⟩
end Go.Proofs.YtjfpgpipbooilaaGreat
/- Plain law: a star goes with Aries, and is where it was after a sidereal day. No program in sight. -/
namespace Go.Proofs.YtjfpgpipbooilaaGreat

end Go.Proofs.YtjfpgpipbooilaaGreat

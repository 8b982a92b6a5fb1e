/- Contracts and plain laws, several texts in one: Nw3; Lwh; Lho; Sub; Agr; Stp -/
import Derived.Test.YtnnmfdeeicpdlaaGreatProg
import Derived.WalkKit
import Derived.WalkSpells
import Derived.WalkLawsBesides
import Derived.Lib.Hide
import Derived.BigQuiet
import Derived.Test.YtnnmfdeeicpdlaaGreatSAA
import Derived.Test.YtnnmfdeeicpdlaaGreatSAD
import Derived.Test.YtnnmfdeeicpdlaaGreatSAF
import Derived.Test.YtnnmfdeeicpdlaaGreatSAM
import Derived.Test.YtnnmfdeeicpdlaaGreatSAN
import Derived.Test.YtnnmfdeeicpdlaaGreatSAO
import Derived.Test.YtnnmfdeeicpdlaaGreatSAP
import Derived.Test.YtnnmfdeeicpdlaaGreatSAT
import Derived.Test.YtnnmfdeeicpdlaaGreatSAV
/- The example of chapter 17 (awake); right. -/
namespace Go.Proofs.YtnnmfdeeicpdlaaGreat
open Go.RowKit Go.Shelf

def vegaS : ByteArray := ⟨#[86, 101, 103, 97]⟩
theorem vega_name : nameB vegaS = true := by
  refine nameB_iff.2 ⟨by decide, by decide, fun i hi => ?_, by decide⟩
  have h4 : i < 4 := hi
  match i, h4 with
  | 0, _ => decide
  | 1, _ => decide
  | 2, _ => decide
  | 3, _ => decide
theorem vega_list : vegaS.toList = [86, 101, 103, 97] := by rw [ByteArray.toList_eq]; rfl
end Go.Proofs.YtnnmfdeeicpdlaaGreat
/- The laws AlmanacWhere and AlmanacHours. -/
namespace Go.Proofs.YtnnmfdeeicpdlaaGreat
open Go.RowKit Go.Shelf

theorem gv_eta (G : GeoV) : gv G = (.agg #[.int .i64 (G.a), .int .i64 (G.b), .int .i64 (G.c), .int .i64 (G.d), .int .i64 (G.e), .int .i64 (G.f), .int .i64 (G.g), .int .i64 (G.h)]) := rfl
theorem rfL_of {P : Nat → Prop} {w : World} {vp vs : Value} {lp : List PgV} {ls : List StarV} (hp : PgsD P w vp lp) (hv : SlG stR w vs ls) (k : NewOk lp ls) : RfL P w vp vs lp ls := ⟨hp, hv, k.ok, k.few, k.cat⟩
theorem RfL.lay {P : Nat → Prop} {w : World} {vp vs : Value} {lp : List PgV} {ls : List StarV} (h : RfL P w vp vs lp ls) (L : List (Obj ⊕ Ext)) : RfL P (lay w L) vp vs lp ls := ⟨h.pgs.lay L, h.sts.lay L, h.ok, h.few, h.cat⟩
end Go.Proofs.YtnnmfdeeicpdlaaGreat
/- The local hour angle: the program's and the reference's; the law AlmanacHours. -/
namespace Go.Proofs.YtnnmfdeeicpdlaaGreat
open Go.RowKit Go.Shelf

theorem bodyR_tf {lp : List PgV} {s : ByteArray} {a b : Int} (hok : ∀ p ∈ lp, PgOk p) (h : (bodyR lp s a b).2 = 0) : TF (bodyR lp s a b).1.a (bodyR lp s a b).1.b := by
  cases h1 : trkAt lp s (a / 86400000) with
  | none => rw [bodyR_no h1] at h; cases h
  | some t =>
    have o1 := trkAt_ok hok h1
    by_cases e : a / 86400000 = b / 86400000
    · rw [bodyR_one h1 e]; exact tf_turn (ghaO_le o1 _ _)
    · cases h2 : trkAt lp s (b / 86400000) with
      | none => rw [bodyR_no2 h1 e h2] at h; cases h
      | some u =>
        have o2 := trkAt_ok hok h2
        rw [bodyR_two h1 e h2]
        exact tf_turn (validB_iff.1 (hul_valid (tf_turn (ghaO_le o1 _ _)) (tf_turn (ghaO_le o2 _ _)))).1
theorem whR_tf {lp : List PgV} {ls : List StarV} {s : ByteArray} {a b : Int} (hok : ∀ p ∈ lp, PgOk p) (h : (whR lp ls s a b).2 = 0) : TF (whR lp ls s a b).1.a (whR lp ls s a b).1.b := by
  cases whW lp ls s a b with
  | bad k => rw [whR_bad k] at h; cases h
  | name t k => rw [whR_name t k] at h; cases h
  | wide t k d => rw [whR_wide t k d] at h; cases h
  | aries t d k => rw [whR_aries t d k]; exact tf_turn (ariF_le (timB_iff.1 t).1)
  | star i x t d k f g e =>
    rw [whR_star t d k f e]
    have := ag_bd (timB_iff.1 t).1
    exact tf_turn (by omega)
  | body t d k f g c =>
    rw [whR_body t d k g c] at h ⊢
    exact bodyR_tf hok h
noncomputable def lhaE (lp : List PgV) (ls : List StarV) (s : ByteArray) (a b x y : Int) : Int := if timB a b = false ∨ validB x y = false then 1 else (whR lp ls s a b).2
noncomputable def lhaL (lp : List PgV) (ls : List StarV) (s : ByteArray) (a b x y : Int) : Int := if lhaE lp ls s a b x y = 0 then turnLo ((whR lp ls s a b).1.a + turnLo x y) ((whR lp ls s a b).1.b + turnHi x y) else 0
noncomputable def lhaH (lp : List PgV) (ls : List StarV) (s : ByteArray) (a b x y : Int) : Int := if lhaE lp ls s a b x y = 0 then turnHi ((whR lp ls s a b).1.a + turnLo x y) ((whR lp ls s a b).1.b + turnHi x y) else 0
set_option maxHeartbeats 4000000 in
set_option maxRecDepth 100000 in
theorem made_Lha {w : World} {bk : Nat} {lp : List PgV} {ls : List StarV} {W : World} (h : BkA w bk lp ls W) (k : NewOk lp ls) (s : ByteArray) (a b x y : Int) (L : List (Obj ⊕ Ext)) :
    Calls Tryz.prog 32 #[.pointer (some ⟨bk, 0, none⟩), .string s, (.agg #[.int .i64 (a), .int .i64 (b)]), (.agg #[.int .i64 (x), .int .i64 (y)])] (lay W L) fun e w' => e = .returned (.tuple #[(.agg #[.int .i64 (lhaL lp ls s a b x y), .int .i64 (lhaH lp ls s a b x y)]), .int .i64 (lhaE lp ls s a b x y)]) ∧ ∃ d, w' = bw (lay W L) d := by
  have HW := made_Where (h.bw L) k
  have HW2 := Lib.hid (fun L => HW.out s a b L)
  rw [gv_eta] at HW2
  have htf := whR_tf (lp := lp) (ls := ls) (s := s) (a := a) (b := b) k.ok
  have HV := Lib.hid (fun W => clock_Valid a b W)
  have HX := Lib.hid (fun W => angle_Valid x y W)
  have hvx := validB_iff (lo := x) (hi := y)
  have hE : lhaE lp ls s a b x y = if timB a b = false ∨ validB x y = false then 1 else (whR lp ls s a b).2 := rfl
  have hL : lhaL lp ls s a b x y = if lhaE lp ls s a b x y = 0 then turnLo ((whR lp ls s a b).1.a + turnLo x y) ((whR lp ls s a b).1.b + turnHi x y) else 0 := rfl
  have hH : lhaH lp ls s a b x y = if lhaE lp ls s a b x y = 0 then turnHi ((whR lp ls s a b).1.a + turnLo x y) ((whR lp ls s a b).1.b + turnHi x y) else 0 := rfl
  clear HW h k
  generalize lhaL lp ls s a b x y = RL at *
  generalize lhaH lp ls s a b x y = RH at *
  generalize lhaE lp ls s a b x y = RE at *
  generalize (whR lp ls s a b).1 = G at *
  generalize (whR lp ls s a b).2 = E at *
  obtain ⟨r1, r2, r3, r4, r5, r6, r7, r8⟩ := G
  dsimp only at *
  generalize lay W L = w at *
  generalize timB a b = vt at *
  cases vt
  · rw [if_pos (.inl rfl)] at hE
    subst hE
    rw [if_neg (by decide)] at hL hH
    subst hL hH
    clear htf hvx HW2
    refine lay_start ?_
    go_enter Tryz.func32, Tryz.ntmps32
    go_wp2_with (first | (go_at_call 106; refine (HV.out _).mono ?_; rintro e w' ⟨rfl, dV, rfl⟩))
    all_goals exact bodyPost_ret (v := .tuple #[(.agg #[.int .i64 (0), .int .i64 (0)]), .int .i64 1]) (by simp [results, Tryz.results32, go_sem]) rfl ⟨rfl, lay_ex _ _⟩
  · cases hx : validB x y
    · rw [hx] at HX
      rw [if_pos (.inr hx)] at hE
      subst hE
      rw [if_neg (by decide)] at hL hH
      subst hL hH
      clear htf hvx HW2 hx
      refine lay_start ?_
      go_enter Tryz.func32, Tryz.ntmps32
      go_wp2_with (first | (go_at_call 106; refine (HV.out _).mono ?_; rintro e w' ⟨rfl, dV, rfl⟩) | (go_at_call 39; refine (HX.out _).mono ?_; rintro e w' ⟨rfl, dX, rfl⟩))
      all_goals exact bodyPost_ret (v := .tuple #[(.agg #[.int .i64 (0), .int .i64 (0)]), .int .i64 1]) (by simp [results, Tryz.results32, go_sem]) rfl ⟨rfl, lay_ex _ _⟩
    · rw [hx] at HX
      rw [if_neg (by rw [hx]; simp)] at hE
      subst hE
      by_cases h0 : RE = 0
      · rw [if_pos h0] at hL hH
        obtain ⟨t0, t1, t2, t3⟩ := htf h0
        obtain ⟨v1, v2, v3⟩ := hvx.1 hx
        subst h0
        have bt := turn_bd v1
        have HT1 := Lib.hid (fun W => angle_Turn x y W hx)
        have HA := Lib.hid (fun W => angle_Add r1 r2 (turnLo x y) (turnHi x y) W (validB_iff.2 (by omega)) (validB_iff.2 (by omega)) (validB_iff.2 (by omega)))
        have HT2 := Lib.hid (fun W => angle_Turn (r1 + turnLo x y) (r2 + turnHi x y) W (validB_iff.2 (by omega)))
        rw [← hL, ← hH] at HT2
        clear hL hH hvx hx htf bt
        generalize turnLo x y = p at *
        generalize turnHi x y = q at *
        refine lay_start ?_
        go_enter Tryz.func32, Tryz.ntmps32
        go_wp2_with (first | (go_at_call 106; refine (HV.out _).mono ?_; rintro e w' ⟨rfl, dV, rfl⟩) | (go_at_call 39; refine (HX.out _).mono ?_; rintro e w' ⟨rfl, dX, rfl⟩) | (go_at_call 30; refine (HW2.out _).mono ?_; rintro e w' ⟨rfl, dW, rfl⟩) | (go_at_call 21; (with_reducible refine (HT1.out _).mono ?_); rintro e w' ⟨rfl, d1, rfl⟩) | (go_at_call 21; (with_reducible refine (HT2.out _).mono ?_); rintro e w' ⟨rfl, d2, rfl⟩) | (go_at_call 112; refine (HA.out _).mono ?_; rintro e w' ⟨rfl, d3, rfl⟩))
        all_goals exact bodyPost_ret (v := .tuple #[(.agg #[.int .i64 (RL), .int .i64 (RH)]), .int .i64 0]) (by simp [results, Tryz.results32, go_sem]) rfl ⟨rfl, lay_ex _ _⟩
      · rw [if_neg h0] at hL hH
        subst hL hH
        have e1 : (RE != 0) = true := by simpa using h0
        have e2 : (RE == 0) = false := beq_eq_false_iff_ne.2 h0
        clear htf hvx hx
        refine lay_start ?_
        go_enter Tryz.func32, Tryz.ntmps32
        go_wp2_with (first | (go_at_call 106; refine (HV.out _).mono ?_; rintro e w' ⟨rfl, dV, rfl⟩) | (go_at_call 39; refine (HX.out _).mono ?_; rintro e w' ⟨rfl, dX, rfl⟩) | (go_at_call 30; refine (HW2.out _).mono ?_; rintro e w' ⟨rfl, dW, rfl⟩))
        all_goals exact bodyPost_ret (v := .tuple #[(.agg #[.int .i64 (0), .int .i64 (0)]), .int .i64 RE]) (by simp [results, Tryz.results32, go_sem]) rfl ⟨rfl, lay_ex _ _⟩
end Go.Proofs.YtnnmfdeeicpdlaaGreat
/- The value over a part of a span lies within the value over the span. No program in sight. -/
namespace Go.Proofs.YtnnmfdeeicpdlaaGreat
open Go.RowKit

end Go.Proofs.YtnnmfdeeicpdlaaGreat
/- angle.Agree. -/
namespace Go.Proofs.YtnnmfdeeicpdlaaGreat
open Go.RowKit

end Go.Proofs.YtnnmfdeeicpdlaaGreat
/- Plain law: a star goes with Aries, and is where it was after a sidereal day. No program in sight. -/
namespace Go.Proofs.YtnnmfdeeicpdlaaGreat

end Go.Proofs.YtnnmfdeeicpdlaaGreat

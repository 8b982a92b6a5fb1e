/- Contracts and plain laws, several texts in one: Mdf; Nw3; Lwh -/
import Derived.Test.YtlkphcjlgbimkaaGreatProg
import Derived.WalkKit
import Derived.WalkSpells
import Derived.WalkLawsBesides
import Derived.Lib.Hide
import Derived.BigQuiet
import Derived.Test.YtlkphcjlgbimkaaGreatBAA
import Derived.Test.YtlkphcjlgbimkaaGreatBAB
import Derived.Test.YtlkphcjlgbimkaaGreatBAM
import Derived.Test.YtlkphcjlgbimkaaGreatBAQ
import Derived.Test.YtlkphcjlgbimkaaGreatBAW
import Derived.Test.YtlkphcjlgbimkaaGreatBAY
/- almanac.New by its error number; the law's made in full; a book that is made. -/
namespace Go.Proofs.YtlkphcjlgbimkaaGreat
open Go.RowKit Go.Shelf

structure NewOk (lp : List PgV) (ls : List StarV) : Prop where
  few : lp.length ≤ 40
  ok : ∀ p ∈ lp, PgOk p
  cat : catB ls = true
  ord : OrdK lp lp.length
  tw : twB lp ls = false
theorem newE_0 {lp : List PgV} {ls : List StarV} (h : newE lp ls = 0) : NewOk lp ls := by
  unfold newE at h
  split at h
  · cases h
  · split at h
    · cases h
    · rename_i h1 h2
      split at h
      · cases h
      · rename_i h3
        split at h
        · cases h
        · rename_i h4
          rw [not_or] at h2
          have hb : badP lp = false := by cases e : badP lp; rfl; exact absurd e h2.1
          exact ⟨by omega, bad_all hb, by cases e : catB ls; exact absurd e h2.2; rfl, by simpa using h3, by cases e : twB lp ls; rfl; exact absurd e h4⟩
theorem alm_New_no {P : Nat → Prop} (vp vs : Value) (lp : List PgV) (ls : List StarV) (w : World) (hp : PgsD P w vp lp) (hP : ∀ b, P b → b < w.heap.size) (hv : SlG stR w vs ls) (h : newE lp ls ≠ 0) :
    Calls Tryz.prog 49 #[vp, vs] w fun e w' => e = .returned (.tuple #[.pointer none, .int .i64 (newE lp ls)]) ∧ ∃ d, w' = bw w d := by
  by_cases h1 : 40 < lp.length
  · rw [← newE_full (ls := ls) h1]; exact alm_New_full vp vs lp w hp h1
  · by_cases h2 : badP lp = true ∨ catB ls = false
    · rw [← newE_arg (by omega) h2]; exact alm_New_arg vp vs lp ls w hp hv (by omega) h2
    · rw [not_or] at h2
      have hb : badP lp = false := by cases e : badP lp; rfl; exact absurd e h2.1
      have hc : catB ls = true := by cases e : catB ls; exact absurd e h2.2; rfl
      refine (alm_New_main vp vs lp ls w hp hP hv (by omega) hb hc).mono fun e w' hh => ?_
      rcases hh with ⟨o, t, _⟩ | ⟨o, t, k⟩ | ⟨o, k⟩
      · exact absurd (newE_ok (by omega) hb hc o t).symm h
      · rw [← newE_tw (by omega) hb hc o t]; exact k
      · rw [← newE_ord (by omega) hb hc o]; exact k
theorem alm_New_yes {P : Nat → Prop} (vp vs : Value) (lp : List PgV) (ls : List StarV) (w : World) (hp : PgsD P w vp lp) (hP : ∀ b, P b → b < w.heap.size) (hv : SlG stR w vs ls) (h : newE lp ls = 0) :
    Calls Tryz.prog 49 #[vp, vs] w (NewPost w lp ls) := by
  have h1 : ¬ 40 < lp.length := fun h1 => by have := newE_full (ls := ls) h1; omega
  have h2 : ¬ (badP lp = true ∨ catB ls = false) := fun h2 => by have := newE_arg (by omega) h2; omega
  rw [not_or] at h2
  have hb : badP lp = false := by cases e : badP lp; rfl; exact absurd e h2.1
  have hc : catB ls = true := by cases e : catB ls; exact absurd e h2.2; rfl
  refine (alm_New_main vp vs lp ls w hp hP hv (by omega) hb hc).mono fun e w' hh => ?_
  rcases hh with ⟨o, t, k⟩ | ⟨o, t, k⟩ | ⟨o, k⟩
  · exact k
  · have := newE_tw (by omega) hb hc o t; omega
  · have := newE_ord (by omega) hb hc o; omega
/-- Where the walk comes out with a book. -/
def MadePost (w : World) (lp : List PgV) (ls : List StarV) (e : Ending) (w' : World) : Prop :=
  ∃ bk d, e = .returned (.tuple #[.pointer (some ⟨bk, 0, none⟩), .bool true]) ∧ w' = bw w d ∧ BkA w bk lp ls (bw w d)
set_option maxHeartbeats 1000000 in
theorem law17_made_no {P : Nat → Prop} (vp vs : Value) (lp : List PgV) (ls : List StarV) (w : World) (hp : PgsD P w vp lp) (hP : ∀ b, P b → b < w.heap.size) (hv : SlG stR w vs ls) (h : newE lp ls ≠ 0) :
    Calls Tryz.prog 13 #[vp, vs] w fun e w' => e = .returned (.tuple #[.pointer none, .bool true]) ∧ ∃ d, w' = bw w d := by
  have HN := Lib.hid (fun L => alm_New_no vp vs lp ls (lay w L) (hp.lay L) (fun b hb => Nat.lt_of_lt_of_le (hP b hb) (lay_extends w L).size) (hv.lay L) h)
  have HR := Lib.hid (fun L => ref17_New vp vs lp ls (lay w L) (hp.lay L) (hv.lay L))
  have h2 : (newE lp ls != 0) = true := by simpa using h
  have h3 : (newE lp ls == 0) = false := beq_eq_false_iff_ne.2 h
  generalize newE lp ls = E at *
  clear hp hP hv
  refine lay_start ?_
  go_enter Tryz.func13, Tryz.ntmps13
  go_wp2_with (first | (go_at_call 49; refine (HN.out _).mono ?_; rintro e w' ⟨rfl, d, rfl⟩) | (go_at_call 59; refine (HR.out _).mono ?_; rintro e w' ⟨rfl, d, rfl⟩))
  all_goals exact bodyPost_ret (v := .tuple #[.pointer none, .bool true]) (by simp [results, Tryz.results13, go_sem]) rfl ⟨rfl, lay_ex _ _⟩
theorem BkA.bw {w : World} {bk : Nat} {lp : List PgV} {ls : List StarV} {W : World} (h : BkA w bk lp ls W) (L : List (Obj ⊕ Ext)) : BkA w bk lp ls (lay W L) := by
  obtain ⟨h0, vd, vp, vs, h1, h2, h3, h4, h5, h6⟩ := h
  exact ⟨h0, vd, vp, vs, h1.lay L, h2.lay L, h3, h4.lay L, h5.lay L, h6⟩
set_option maxHeartbeats 1000000 in
theorem law17_made_yes {P : Nat → Prop} (vp vs : Value) (lp : List PgV) (ls : List StarV) (w : World) (hp : PgsD P w vp lp) (hP : ∀ b, P b → b < w.heap.size) (hv : SlG stR w vs ls) (h : newE lp ls = 0) :
    Calls Tryz.prog 13 #[vp, vs] w (MadePost w lp ls) := by
  have HN := Lib.hid (alm_New_yes vp vs lp ls w hp hP hv h)
  have HR := Lib.hid (fun L => ref17_New vp vs lp ls (lay w L) (hp.lay L) (hv.lay L))
  rw [h] at HR
  unfold MadePost
  clear hp hP hv h
  refine lay_start ?_
  go_enter Tryz.func13, Tryz.ntmps13
  go_wp2_with fail
  refine HN.out.mono ?_
  rintro e w' ⟨bk, d, rfl, rfl, hB⟩
  have HB := Lib.hid hB
  clear hB
  rw [show bw w d = lay w [.inr d] from rfl]
  go_wp2_with (first | (go_at_call 59; refine (HR.out _).mono ?_; rintro e w' ⟨rfl, d2, rfl⟩))
  obtain ⟨z, hz⟩ := lay_ex w [.inr d2, .inr d]
  exact bodyPost_ret (v := .tuple #[.pointer (some ⟨bk, 0, none⟩), .bool true]) (by simp [results, Tryz.results13, go_sem]) rfl ⟨_, z, rfl, hz, hz ▸ HB.out.bw [.inr d2]⟩
/-- A book that is made, in any further world. -/
theorem BkA.open {w : World} {bk : Nat} {lp : List PgV} {ls : List StarV} {W : World} (h : BkA w bk lp ls W) (k : NewOk lp ls) : ∃ vd vp vs, BkL (fun b => w.heap.size ≤ b ∧ b ≠ bk) W bk vd vp vs lp ∧ SlG stR W vs ls := by
  obtain ⟨h0, vd, vp, vs, h1, h2, h3, h4, h5, h6⟩ := h
  exact ⟨vd, vp, vs, ⟨h1, h2, h4, k.ord, k.ok, k.few⟩, h5⟩
theorem made_Where {w : World} {bk : Nat} {lp : List PgV} {ls : List StarV} {W : World} (h : BkA w bk lp ls W) (k : NewOk lp ls) : Hid (∀ s a b L, Calls Tryz.prog 14 #[.pointer (some ⟨bk, 0, none⟩), .string s, (.agg #[.int .i64 (a), .int .i64 (b)])] (lay W L) fun e w' => e = .returned (.tuple #[gv (whR lp ls s a b).1, .int .i64 (whR lp ls s a b).2]) ∧ ∃ d, w' = bw (lay W L) d) := by
  obtain ⟨vd, vp, vs, h1, h2⟩ := h.open k
  exact Lib.hid (fun s a b L => alm_Where bk vd vp vs lp ls s a b (lay W L) (h1.lay L) (h2.lay L) k.cat)
end Go.Proofs.YtlkphcjlgbimkaaGreat
/- The example of chapter 17 (awake); right. -/
namespace Go.Proofs.YtlkphcjlgbimkaaGreat
open Go.RowKit Go.Shelf

theorem tracked_nil_post (bk : Nat) (vd vs : Value) (w : World) (hB : Bk w bk vd (.slice none 0 0) vs) :
    Calls Tryz.prog 64 #[.pointer (some ⟨bk, 0, none⟩)] w (StrPost w []) :=
  (alm_tracked_nil bk vd vs w hB).mono fun _ _ ⟨h1, d, h2⟩ => ⟨none, 0, d, h1, h2, fun _ => rfl, SlG.nil _ _⟩
def vegaS : ByteArray := ⟨#[86, 101, 103, 97]⟩
def vegaV : StarV := ⟨vegaS, 48000, 0, 0⟩
theorem vega_name : nameB vegaS = true := by
  refine nameB_iff.2 ⟨by decide, by decide, fun i hi => ?_, by decide⟩
  have h4 : i < 4 := hi
  match i, h4 with
  | 0, _ => decide
  | 1, _ => decide
  | 2, _ => decide
  | 3, _ => decide
theorem vega_cat : catB [vegaV] = true := by
  refine catB_iff.2 ⟨by decide, fun i x hx => ?_⟩
  cases i with
  | zero =>
    simp only [List.getElem?_cons_zero, Option.some.injEq] at hx
    subst hx
    refine ⟨vega_name, by decide, ?_⟩
    show (if (vegaS.toList == vegaS.toList) then ((0 : Nat) : Int) else _) = _
    rw [if_pos (beq_self_eq_true _)]
  | succ i => simp at hx
theorem vega_find : fndS [vegaV] vegaS = ((0 : Nat) : Int) := by
  show (if (vegaS.toList == vegaS.toList) then ((0 : Nat) : Int) else _) = _
  rw [if_pos (beq_self_eq_true _)]
theorem vega_list : vegaS.toList = [86, 101, 103, 97] := by rw [ByteArray.toList_eq]; rfl
theorem vega_notA : [vegaV].any (fun x => isA x.s) = false := by
  show (isA vegaS || false) = false
  unfold isA
  rw [vega_list]
  rfl
theorem eg_ag : agL 0 0 = 5998067 ∧ agH 0 0 = 5998068 := by decide +kernel
theorem eg_sg : sgL 0 0 48000 = 10798017 ∧ sgH 0 0 48000 = 10798118 := by decide +kernel
theorem vega_lit (w : World) (L : List (Obj ⊕ Ext)) : SlG stR (lay w (.inl (.cells #[.string vegaS, .int .i64 48000, .int .i64 0, .int .i64 0] 70 (0, 0)) :: L)) (.slice (some ⟨posn w (shp L), 0, none⟩) 1 1) [vegaV] :=
  (owG_lit stOk [vegaV] rfl (by decide) (by intro x hx; rw [List.mem_singleton.1 hx]; exact ⟨by decide, by decide, by decide, by decide⟩)).sl stOk
theorem two_lit (w : World) (L : List (Obj ⊕ Ext)) : SlG strR (lay w (.inl (.cells #[.string ariesS, .string vegaS] 9 (0, 0)) :: L)) (.slice (some ⟨posn w (shp L), 0, none⟩) 2 2) [ariesS, vegaS] :=
  (owG_lit strOk [ariesS, vegaS] rfl (by decide) (by
    intro x hx
    simp only [List.mem_cons, List.not_mem_nil, or_false] at hx
    rcases hx with rfl | rfl
    · exact (by decide : ariesS.size ≤ 9223372036854775807)
    · exact (by decide : vegaS.size ≤ 9223372036854775807))).sl strOk
set_option maxHeartbeats 2000000 in
set_option maxRecDepth 100000 in
theorem law17_awake (w : World) :
    Calls Tryz.prog 11 #[] w fun e w' => e = .returned (.bool true) ∧ ∃ d, w' = bw w d := by
  refine lay_start ?_
  go_enter Tryz.func11, Tryz.ntmps11
  go_wp2_with fail
  refine (alm_New_nil3 _ [vegaV] _ (vega_lit w []) vega_cat vega_notA).mono ?_
  rintro e w' ⟨bk, vs, d1, rfl, rfl, hB, hS⟩
  rw [lay_bw] at hB hS ⊢
  have HB := Lib.hid hB
  have HA := Lib.hid (fun L => alm_Aries bk _ _ vs [vegaV] 0 0 (lay _ L) (hB.lay L) (hS.lay L) (by decide) (by decide))
  rw [eg_ag.1, eg_ag.2] at HA
  have HW := Lib.hid (fun L => alm_Where_star bk _ _ vs [vegaV] 0 vegaV vegaS 0 0 (lay _ L) (hB.lay L) (hS.lay L) rfl vega_find (by rw [vega_list]; rfl) (by decide) (by decide) (by decide) (by decide) (by decide) (by decide))
  change Hid (∀ L, Calls Tryz.prog _ _ _ fun e w' => e = .returned (.tuple #[(.agg #[.int .i64 (sgL 0 0 48000), .int .i64 (sgH 0 0 48000), .int .i64 (dcL 0), .int .i64 (dcH 0), .int .i64 (0), .int .i64 (0), .int .i64 (0), .int .i64 (0)]), .int .i64 0]) ∧ ∃ d, w' = bw _ d) at HW
  rw [eg_sg.1, eg_sg.2] at HW
  have HBo := Lib.hid (fun L => alm_Bodies bk _ _ vs [vegaV] [] (lay _ L) (hB.lay L) (hS.lay L) (fun L' => tracked_nil_post bk _ vs _ ((hB.lay L).lay L')) (by decide) (by decide))
  simp only [← lay_appG] at HA HW HBo
  clear hB hS
  go_wp2_with fail
  refine (HA.out []).mono ?_
  rintro e w' ⟨rfl, d2, rfl⟩
  rw [List.nil_append, lay_bw]
  go_wp2_with fail
  refine (HW.out [_, _]).mono ?_
  rintro e w' ⟨rfl, d3, rfl⟩
  rw [lay_bw]
  go_wp2_with fail
  refine (HBo.out [_, _, _, _]).mono ?_
  rintro e w' ⟨v4, d4, rfl, rfl, hO⟩
  rw [lay_bw] at hO ⊢
  have H4 : Hid (SlG strR _ v4 [ariesS, vegaS]) := Lib.hid (hO.sl strOk)
  clear hO HB
  go_wp2_with fail
  refine (str_Equal _ _ [ariesS, vegaS] [ariesS, vegaS] _ (slG_on (A := [_]) H4.out) (two_lit w _)).mono ?_
  rintro e w' ⟨rfl, d5, rfl⟩
  rw [lay_bw, decide_eq_true rfl]
  go_wp2_with fail
  go_ret
  exact ⟨rfl, lay_ex _ _⟩
end Go.Proofs.YtlkphcjlgbimkaaGreat
/- The laws AlmanacWhere and AlmanacHours. -/
namespace Go.Proofs.YtlkphcjlgbimkaaGreat
open Go.RowKit Go.Shelf

theorem gv_eta (G : GeoV) : gv G = (.agg #[.int .i64 (G.a), .int .i64 (G.b), .int .i64 (G.c), .int .i64 (G.d), .int .i64 (G.e), .int .i64 (G.f), .int .i64 (G.g), .int .i64 (G.h)]) := rfl
set_option maxHeartbeats 1000000 in
theorem made_Aries {w : World} {bk : Nat} {lp : List PgV} {ls : List StarV} {W : World} (h : BkA w bk lp ls W) (k : NewOk lp ls) (a b : Int) (L : List (Obj ⊕ Ext)) :
    Calls Tryz.prog 16 #[.pointer (some ⟨bk, 0, none⟩), (.agg #[.int .i64 (a), .int .i64 (b)])] (lay W L) fun e w' => e = .returned (.tuple #[(.agg #[.int .i64 ((whR lp ls ariesS a b).1.a), .int .i64 ((whR lp ls ariesS a b).1.b)]), .int .i64 (whR lp ls ariesS a b).2]) ∧ ∃ d, w' = bw (lay W L) d := by
  have HW := made_Where (h.bw L) k
  have HW2 := Lib.hid (fun L => HW.out ariesS a b L)
  rw [gv_eta] at HW2
  clear HW h k
  generalize (whR lp ls ariesS a b).1 = G at *
  generalize (whR lp ls ariesS a b).2 = E at *
  obtain ⟨r1, r2, r3, r4, r5, r6, r7, r8⟩ := G
  dsimp only at *
  generalize lay W L = w at *
  refine lay_start ?_
  go_enter Tryz.func16, Tryz.ntmps16
  go_wp2_with (first | (go_at_call 14; refine (HW2.out _).mono ?_; rintro e w' ⟨rfl, dV, rfl⟩))
  all_goals exact bodyPost_ret (v := .tuple #[(.agg #[.int .i64 (r1), .int .i64 (r2)]), .int .i64 E]) (by simp [results, Tryz.results16, go_sem]) rfl ⟨rfl, lay_ex _ _⟩
theorem rfL_of {P : Nat → Prop} {w : World} {vp vs : Value} {lp : List PgV} {ls : List StarV} (hp : PgsD P w vp lp) (hv : SlG stR w vs ls) (k : NewOk lp ls) : RfL P w vp vs lp ls := ⟨hp, hv, k.ok, k.few, k.cat⟩
theorem RfL.lay {P : Nat → Prop} {w : World} {vp vs : Value} {lp : List PgV} {ls : List StarV} (h : RfL P w vp vs lp ls) (L : List (Obj ⊕ Ext)) : RfL P (lay w L) vp vs lp ls := ⟨h.pgs.lay L, h.sts.lay L, h.ok, h.few, h.cat⟩
theorem inB_lt {w : World} : ∀ b, InB w b → b < w.heap.size := fun _ h => h
theorem inB_lay {w : World} (L : List (Obj ⊕ Ext)) : ∀ b, InB w b → b < (lay w L).heap.size := fun _ h => Nat.lt_of_lt_of_le h (lay_extends w L).size
set_option maxHeartbeats 4000000 in
set_option maxRecDepth 100000 in
theorem law17_Where (vp : Value) (lp : List PgV) {w : World} (hp : PgsD (InB w) w vp lp) (vs : Value) (ls : List StarV) (hv : SlG stR w vs ls) (s : ByteArray) (_ : s.size ≤ maxLen) (a b : Int) (_ : (Lit.int .i64 a).wf = true) (_ : (Lit.int .i64 b).wf = true) :
    Calls Tryz.prog 3 #[vp, vs, .string s, (.agg #[.int .i64 (a), .int .i64 (b)])] w fun e w' => e = .returned (.bool true) ∧ ∃ d, w' = bw w d := by
  have HAw := Lib.hid (fun W => law17_awake W)
  have HLa := Lib.hid (fun L => law17_large vp vs lp ls (lay w L) (hp.lay L) (hv.lay L))
  have HMn := Lib.hid (fun L h => law17_made_no vp vs lp ls (lay w L) (hp.lay L) (inB_lay L) (hv.lay L) h)
  have HMy := Lib.hid (fun L h => law17_made_yes vp vs lp ls (lay w L) (hp.lay L) (inB_lay L) (hv.lay L) h)
  have HRf := Lib.hid (fun k s L => ref17_Where vp vs lp ls s a b (lay w L) ((rfL_of hp hv k).lay L))
  obtain ⟨pa, pc, rfl⟩ := pgs_form hp
  obtain ⟨sa, sc, rfl⟩ := hv.form
  generalize ls.length = m at *
  generalize lp.length = n at *
  clear hp hv
  refine lay_start ?_
  go_enter Tryz.func3, Tryz.ntmps3
  go_wp2_with (first | (go_at_call 11; refine (HAw.out _).mono ?_; rintro e w' ⟨rfl, d1, rfl⟩))
  refine (HLa.out _).mono ?_
  rintro e w' ⟨r, rfl, d2, rfl⟩
  rw [lay_bw]
  cases r
  · by_cases hs : (100 : Int) < (s.size : Int)
    · go_wp2_with fail
      go_ret
      exact ⟨rfl, lay_ex _ _⟩
    · go_wp2_with fail
      by_cases hE : newE lp ls = 0
      · have hk := newE_0 hE
        refine (HMy.out _ hE).mono ?_
        rintro e w' ⟨bk, d3, rfl, rfl, hB⟩
        have HW := made_Where hB hk
        have HA := Lib.hid (fun L => made_Aries hB hk a b L)
        have HR1 := Lib.hid (fun L => HRf.out hk s L)
        have HR2 := Lib.hid (fun L => HRf.out hk ariesS L)
        rw [gv_eta] at HR1 HR2
        have HW1 := Lib.hid (fun L => HW.out s a b L)
        rw [gv_eta] at HW1
        clear hB hk HW HRf hE HMy HMn HLa HAw
        rw [lay_bw] at HW1 HA ⊢
        simp only [← lay_appG] at HW1 HA
        generalize (whR lp ls s a b).2 = E1 at *
        generalize (whR lp ls s a b).1 = G1 at *
        generalize (whR lp ls ariesS a b).2 = E2 at *
        generalize (whR lp ls ariesS a b).1 = G2 at *
        obtain ⟨r1, r2, r3, r4, r5, r6, r7, r8⟩ := G1
        obtain ⟨q1, q2, q3, q4, q5, q6, q7, q8⟩ := G2
        dsimp only at *
        go_wp2_with fail
        refine (HW1.out [_]).mono ?_
        rintro e w' ⟨rfl, d4, rfl⟩
        go_wp2_with fail
        refine (HR1.out _).mono ?_
        rintro e w' ⟨rfl, d5, rfl⟩
        go_wp2_with fail
        refine (HA.out [_, _, _, _, _]).mono ?_
        rintro e w' ⟨rfl, d6, rfl⟩
        go_wp2_with fail
        refine (HR2.out _).mono ?_
        rintro e w' ⟨rfl, d7, rfl⟩
        go_wp2_with fail
        go_ret
        exact ⟨rfl, lay_ex _ _⟩
      · refine (HMn.out _ hE).mono ?_
        rintro e w' ⟨rfl, d3, rfl⟩
        go_wp2_with fail
        go_ret
        exact ⟨rfl, lay_ex _ _⟩
  · go_wp2_with fail
    go_ret
    exact ⟨rfl, lay_ex _ _⟩
end Go.Proofs.YtlkphcjlgbimkaaGreat

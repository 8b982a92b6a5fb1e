/- Contracts and plain laws, several texts in one: Alm4; Sta3; Sta4; Nw0; Nw1; Bod -/
import Derived.Test.YtkhhdpndcidmgaaGreatProg
import Derived.WalkKit
import Derived.WalkSpells
import Derived.WalkLawsBesides
import Derived.Lib.Hide
import Derived.BigQuiet
import Derived.Test.YtkhhdpndcidmgaaGreatSAA
import Derived.Test.YtkhhdpndcidmgaaGreatSAC
import Derived.Test.YtkhhdpndcidmgaaGreatSAD
import Derived.Test.YtkhhdpndcidmgaaGreatSAE
import Derived.Test.YtkhhdpndcidmgaaGreatSAU
import Derived.Test.YtkhhdpndcidmgaaGreatSAW
import Derived.Test.YtkhhdpndcidmgaaGreatSAX
/- (*almanac.Book).Where for Aries and for stars. -/
namespace Go.Proofs.YtkhhdpndcidmgaaGreat
set_option maxHeartbeats 1000000
open Go.RowKit

theorem alm_Where1 (x : StarV) (s : ByteArray) (b : Nat) (w : World) (hb : b < w.heap.size) (hc : w.cell? ⟨b, 0, none⟩ = some (.string s)) :
    Calls Tryz.prog 61 #[.agg #[.string x.s, .int .i64 x.sha, .int .i64 x.dec, .int .i64 x.mag], .pointer (some ⟨b, 0, none⟩)] w fun e w' => e = .returned (.bool (nmB x.s s)) ∧ ∃ d, w' = bw w d := by
  obtain ⟨xs, x1, x2, x3⟩ := x
  dsimp only
  refine lay_start ?_
  go_enter Tryz.func61, Tryz.ntmps61
  go_wp2
  go_ret
  exact ⟨rfl, lay_ex _ _⟩
def ariesS : ByteArray := ⟨#[65, 114, 105, 101, 115]⟩
theorem aries_list : ariesS.toList = [65, 114, 105, 101, 115] := by rw [ByteArray.toList_eq]; rfl
structure Bk (w : World) (b : Nat) (vd vp vs : Value) : Prop where
  lt : b < w.heap.size
  c0 : w.cell? ⟨b, 0, none⟩ = some vd
  c1 : w.cell? ⟨b, 1, none⟩ = some vp
  c2 : w.cell? ⟨b, 2, none⟩ = some vs
theorem Bk.lay {w : World} {b : Nat} {vd vp vs : Value} (h : Bk w b vd vp vs) (L : List (Obj ⊕ Ext)) : Bk (lay w L) b vd vp vs :=
  ⟨Nat.lt_of_lt_of_le h.lt (lay_extends w L).size, (lay_old w L 0 b h.lt).trans h.c0, (lay_old w L 1 b h.lt).trans h.c1, (lay_old w L 2 b h.lt).trans h.c2⟩
theorem alm_Where_star (bk : Nat) (vd vp vs : Value) (l : List StarV) (i : Nat) (x : StarV) (s : ByteArray) (a b : Int) (w : World) (hB : Bk w bk vd vp vs) (hv : SlG stR w vs l)
    (hx : l[i]? = some x) (hi : fndS l s = (i : Int)) (hne : (s.toList == [65, 114, 105, 101, 115]) = false) (ht : timB a b = true) (hw : b - a < 86400000) (h0 : 0 ≤ x.sha) (h1 : x.sha ≤ 215999) (d0 : -54000 ≤ x.dec) (d1 : x.dec ≤ 54000) :
    Calls Tryz.prog 18 #[.pointer (some ⟨bk, 0, none⟩), .string s, (.agg #[.int .i64 (a), .int .i64 (b)])] w fun e w' =>
      e = .returned (.tuple #[(.agg #[.int .i64 (sgL a b x.sha), .int .i64 (sgH a b x.sha), .int .i64 (dcL x.dec), .int .i64 (dcH x.dec), .int .i64 (0), .int .i64 (0), .int .i64 (0), .int .i64 (0)]), .int .i64 0]) ∧ ∃ d, w' = bw w d := by
  obtain ⟨g1, g2, g3⟩ := timB_iff.1 ht
  have HV := Lib.hid (fun W => clock_Valid a b W)
  rw [ht] at HV
  have HS := Lib.hid (fun W => alm_star x.s x.sha x.dec x.mag a b W ht h0 h1 d0 d1)
  have eI : ∀ args w, (callFunc 61 args).run Tryz.prog w = .ok (.enter 61 args) w := enters_of Tryz.func61 (by kernel_rfl) rfl
  have HI := Lib.hid (fun L b' (hb : b' < (lay w L).heap.size) (hc : ∀ d, (lay w (.inr d :: L)).cell? ⟨b', 0, none⟩ = some (.string s)) => st_IndexFunc 61 [.pointer (some ⟨b', 0, none⟩)] (fun x => nmB x.s s) vs l (lay w L) (hv.lay L) eI (fun x _ d =>
    alm_Where1 x s b' (lay w (.inr d :: L)) (Nat.lt_of_lt_of_le hb (bw_le _ d)) (hc d) |>.mono fun e w' ⟨h1, d2, h2⟩ => ⟨h1, _, h2.trans (bw_bw _ _ _)⟩))
  change Hid (∀ L b' hb hc, Calls Tryz.prog _ _ _ (IdxPost (lay w L) (fndS l s))) at HI
  rw [hi] at HI
  have hil : i < l.length := (List.getElem?_eq_some_iff.1 hx).1
  obtain ⟨bs, os, cs, rfl, hcs, hbs, hr⟩ := hv.open (by omega)
  have r0 : w.cell? ⟨bs, os + i * 4, none⟩ = some (.string x.s) := hr i x hx 0 _ rfl
  have r1 : w.cell? ⟨bs, os + i * 4 + 1, none⟩ = some (.int .i64 x.sha) := hr i x hx 1 _ rfl
  have r2 : w.cell? ⟨bs, os + i * 4 + 2, none⟩ = some (.int .i64 x.dec) := hr i x hx 2 _ rfl
  have r3 : w.cell? ⟨bs, os + i * 4 + 3, none⟩ = some (.int .i64 x.mag) := hr i x hx 3 _ rfl
  obtain ⟨k0, k1, k2, k3⟩ := hB
  have z3 : decide ((86400000 : Int) ≤ wrap64 (b - a)) = false := decide_eq_false (by unfold wrap64; omega)
  have x0 : (0 : Int) ≤ (i : Int) := by omega
  have x1 : (i : Int) < (l.length : Int) := by omega
  generalize l.length = m at *
  generalize sgL a b x.sha = p at *
  generalize sgH a b x.sha = q at *
  clear hx hi hv ht g1 g2 g3 hr eI
  obtain ⟨xs, xa, xb, xc⟩ := x
  dsimp only at *
  refine lay_start ?_
  go_enter Tryz.func18, Tryz.ntmps18
  go_wp2_with (first | (go_at_call 59; refine (HV.out _).mono ?_; rintro e w' ⟨rfl, dV, rfl⟩))
  refine (HI.out _ _ (by simp only [lay_size, shp, posn, List.sum_cons, List.sum_nil]; omega) (fun d => by simp [go_sem])).mono ?_
  rintro e w' ⟨rfl, dJ, rfl⟩
  rw [lay_bw]
  have z1 : decide ((i : Int) < 0) = false := decide_eq_false (by omega)
  have z2 : decide ((0 : Int) ≤ (i : Int)) = true := decide_eq_true (by omega)
  go_wp2_with fail
  refine region_bw (by kernel_rfl) (by kernel_rfl) ?_
  repeat (go_big_quiet_step ((first | fail)))
  refine wpQuiet_nil ?_
  rintro w' ⟨dK, rfl⟩
  rw [lay_bw]
  go_wp2_with fail
  refine region_mixC [(0, 0), (1, 0), (2, 0), (3, 0), (4, 0), (5, 0), (6, 0), (7, 0), (8, 0), (9, 0), (10, 0), (11, 0), (12, 1), (13, 0)] (lay w [.inr dK, .inr dJ, .inr dV, .inl (.cells #[.int .i64 0, .int .i64 0, .int .i64 0, .int .i64 0, .int .i64 0, .int .i64 0, .int .i64 0, .int .i64 0] 53 (0, 0)), .inl (.cells #[.int .i64 a, .int .i64 b] 43 (0, 0)), .inl (.cells #[.string s] 9 (0, 0))]) (by kernel_rfl) (by kernel_rfl) (by kernel_rfl) rfl (by first | exact lay_in w [] _ | exact lay_in w [_] _ | exact lay_in w [_, _] _ | exact lay_in w [_, _, _] _ | exact lay_in w [_, _, _, _] _) ?_
  repeat (first | (refine wpMP_quiet rfl (fun K hK => ?_); go_simp; first | (refine hK _ ?_; clear hK K) | (apply Exists.intro; refine ⟨fun _ => ?_, hK _ ?_⟩; (first | (go_at_call 63; exact bq (HS.out _) (fun d => lay_join _ _ _ d)) | (go_at_call 63; exact bq (HS.out _) (fun d => ⟨d, rfl⟩))); clear hK K)) | (refine wpMP_special rfl (fun K hK d => ?_); go_simp; refine hK _ _ (by first | exact lay_in w [_] _ | exact lay_in w [_, _] _ | exact lay_in w [_, _, _] _ | exact lay_in w [_, _, _, _] _ | exact lay_in w [_, _, _, _, _] _ | exact lay_in w [_, _, _, _, _, _] _) ?_; clear hK K))
  refine wpMP_nil ?_
  intro d
  rw [lay_bw]
  go_wp2_with fail
  all_goals exact bodyPost_ret (v := .tuple #[(.agg #[.int .i64 (p), .int .i64 (q), .int .i64 (dcL xb), .int .i64 (dcH xb), .int .i64 (0), .int .i64 (0), .int .i64 (0), .int .i64 (0)]), .int .i64 0]) (by simp [results, Tryz.results18, go_sem]) rfl ⟨rfl, lay_ex _ _⟩
end Go.Proofs.YtkhhdpndcidmgaaGreat
/- Valid catalogues, in the program and in the reference. -/
namespace Go.Proofs.YtkhhdpndcidmgaaGreat
open Go.RowKit Go.Shelf

def StOk1 (l : List StarV) (i : Nat) (x : StarV) : Prop := nameB x.s = true ∧ numB x.sha x.dec x.mag = true ∧ fndS l x.s = (i : Int)
structure Cat (l : List StarV) : Prop where
  len : l.length ≤ 100
  ok : ∀ i x, l[i]? = some x → StOk1 l i x
noncomputable def catB (l : List StarV) : Bool := @decide (Cat l) (Classical.propDecidable _)
theorem catB_iff {l : List StarV} : catB l = true ↔ Cat l := by unfold catB; simp
theorem catB_no {l : List StarV} (h : ¬ Cat l) : false = catB l := by cases e : catB l; rfl; exact absurd (catB_iff.1 e) h
theorem catB_yes {l : List StarV} (h : Cat l) : true = catB l := (catB_iff.2 h).symm
theorem cat_big {l : List StarV} (h : 100 < l.length) : ¬ Cat l := fun c => by have := c.len; omega
theorem cat_bad {l : List StarV} {i : Nat} {x : StarV} (hx : l[i]? = some x) (h : ¬ StOk1 l i x) : ¬ Cat l := fun c => h (c.ok i x hx)
theorem cat_all {l : List StarV} {n : Nat} (hn : l.length = n) (hl : n ≤ 100) (h : ∀ i x, i < n → l[i]? = some x → StOk1 l i x) : Cat l := ⟨by omega, fun i x hx => h i x (by have := (List.getElem?_eq_some_iff.1 hx).1; omega) hx⟩
set_option maxHeartbeats 4000000 in
set_option maxRecDepth 100000 in
theorem cat_Valid (v : Value) (l : List StarV) (w : World) (hv : SlG stR w v l) :
    Calls Tryz.prog 51 #[v] w fun e w' => e = .returned (.bool (catB l)) ∧ ∃ d, w' = bw w d := by
  have HV := Lib.hid hv
  by_cases hbig : 100 < l.length
  · have HB := Lib.hid (catB_no (cat_big hbig))
    obtain ⟨a, c, rfl⟩ := hv.form
    have t1 : decide ((100 : Int) < (l.length : Int)) = true := decide_eq_true (by omega)
    clear hv hbig HV
    generalize l.length = m at *
    refine lay_start ?_
    go_enter Tryz.func51, Tryz.ntmps51
    go_wp2
    go_ret
    exact ⟨ret_bool HB.out, lay_ex _ _⟩
  · have t1 : decide ((100 : Int) < (l.length : Int)) = false := decide_eq_false (by omega)
    by_cases hz : l = []
    · subst hz
      have HB := Lib.hid (catB_yes (cat_all (l := []) (n := 0) rfl (by decide) (fun i _ hi => absurd hi (Nat.not_lt_zero i))))
      obtain ⟨a, c, rfl⟩ := hv.form
      refine lay_start ?_
      go_enter Tryz.func51, Tryz.ntmps51
      go_wp2_with fail
      refine wp_loop_rounds 1 ?_
      rw [rounds_succ]
      go_wp2
      go_ret
      exact ⟨ret_bool HB.out, lay_ex _ _⟩
    · obtain ⟨b, o, c, rfl, hc, hb, hr⟩ := hv.open (List.length_pos_iff.2 hz)
      have HI := Lib.hid (fun W s (q : SlG stR W (.slice (some ⟨b, o, none⟩) l.length c) l) => cat_index _ l s W q)
      have HWf := Lib.hid hv.wf
      have HBad := Lib.hid (fun i x hx (h : ¬ StOk1 l i x) => catB_no (cat_bad hx h))
      have HAll := Lib.hid (fun (h : ∀ i x, i < l.length → l[i]? = some x → StOk1 l i x) => catB_yes (cat_all rfl (by omega) h))
      obtain ⟨m, hm⟩ : ∃ m, l.length = m := ⟨_, rfl⟩
      have HM := Lib.hid hm
      have HR : Hid (∀ i x, l[i]? = some x → w.cell? ⟨b, o + i * 4, none⟩ = some (.string x.s) ∧ w.cell? ⟨b, o + i * 4 + 1, none⟩ = some (.int .i64 x.sha) ∧ w.cell? ⟨b, o + i * 4 + 2, none⟩ = some (.int .i64 x.dec) ∧ w.cell? ⟨b, o + i * 4 + 3, none⟩ = some (.int .i64 x.mag)) :=
        Lib.hid (fun i x hx => ⟨hr i x hx 0 _ rfl, hr i x hx 1 _ rfl, hr i x hx 2 _ rfl, hr i x hx 3 _ rfl⟩)
      rw [hm] at hc HV HI HAll hbig t1 ⊢
      clear hz hm hr hv
      refine lay_start ?_
      go_enter Tryz.func51, Tryz.ntmps51
      go_wp2_with fail
      go_loopw [10] (fun i wr => ∃ (k : Nat) (d : Ext), k ≤ m ∧ i = .int .i64 k ∧ wr = lay w [.inr d] ∧ ∀ i x, i < k → l[i]? = some x → StOk1 l i x) (fun i _ => m - (intOf i).toNat)
      case atStart => exact ⟨0, noExt _, Nat.zero_le _, rfl, (bw_noExt _).symm, fun i x hi => by omega⟩
      case round =>
        obtain ⟨k, d, hk, rfl, rfl, hA⟩ := hrel
        have HA := Lib.hid hA
        clear hA
        by_cases hlt : k < m
        · obtain ⟨x, hx⟩ : ∃ x, l[k]? = some x := ⟨_, List.getElem?_eq_getElem (by rw [HM.out]; exact hlt)⟩
          obtain ⟨e0, e1, e2, e3⟩ := HR.out k x hx
          have hsz := (HWf.out x (List.mem_of_getElem? hx)).1
          have HNo := Lib.hid (HBad.out k x hx)
          have HYes : Hid (StOk1 l k x → ∀ i y, i < k + 1 → l[i]? = some y → StOk1 l i y) := Lib.hid (fun h i y hi hy => by
            by_cases e : i = k
            · subst e
              rw [hx] at hy
              cases hy; exact h
            · exact HA.out i y (by omega) hy)
          have hst : StOk1 l k x ↔ nameB x.s = true ∧ numB x.sha x.dec x.mag = true ∧ fndS l x.s = (k : Int) := Iff.rfl
          have HSt := Lib.hid hst
          have x1 : (k : Int) < (m : Int) := by omega
          clear hx hst
          obtain ⟨xs, xa, xb, xc⟩ := x
          dsimp only at e0 e1 e2 e3 hsz HSt
          have HN1 := Lib.hid (fun W => dec_IsName xs W hsz)
          have HN2 := Lib.hid (fun W => cat_numbers xs xa xb xc W)
          have HN3 := Lib.hid (fun W q => HI.out W xs q)
          generalize nameB xs = P1 at *
          generalize numB xa xb xc = P2 at *
          generalize fndS l xs = J at *
          have hcase : (P1 = true ∧ P2 = true ∧ J = (k : Int)) ∨ (¬ StOk1 l k ⟨xs, xa, xb, xc⟩ ∧ (P1 = false ∨ (P1 = true ∧ P2 = false) ∨ (P1 = true ∧ P2 = true ∧ (J == (k : Int)) = false))) := by
            cases P1
            · exact .inr ⟨(fun h => absurd (HSt.out.1 h).1 (by decide)), .inl rfl⟩
            · cases P2
              · exact .inr ⟨(fun h => absurd (HSt.out.1 h).2.1 (by decide)), .inr (.inl ⟨rfl, rfl⟩)⟩
              · by_cases hj : J = (k : Int)
                · exact .inl ⟨rfl, rfl, hj⟩
                · exact .inr ⟨fun h => hj (HSt.out.1 h).2.2, .inr (.inr ⟨rfl, rfl, beq_eq_false_iff_ne.2 hj⟩)⟩
          rcases hcase with ⟨rfl, rfl, rfl⟩ | ⟨hno, hw⟩
          · have HY2 := Lib.hid (HYes.out (HSt.out.2 ⟨rfl, rfl, rfl⟩))
            go_wp2_with (first | (go_at_call 86; refine (HN1.out _).mono ?_; rintro e w' ⟨rfl, rfl⟩) | (go_at_call 87; refine (HN2.out _).mono ?_; rintro e w' ⟨rfl, d, rfl⟩) | (go_at_call 88; refine (HN3.out _ (HV.out.lay _)).mono ?_; rintro e w' ⟨rfl, d, rfl⟩))
            go_roundw
            case rel => exact ⟨k + 1, _, by omega, by go_num, Classical.choose_spec (lay_all w _), HY2.out⟩
            case measure => simp [intOf]; omega
          · have HB := Lib.hid (HNo.out hno)
            clear hno
            rcases hw with rfl | ⟨rfl, rfl⟩ | ⟨rfl, rfl, t9⟩
            all_goals
              go_wp2_with (first | (go_at_call 86; refine (HN1.out _).mono ?_; rintro e w' ⟨rfl, rfl⟩) | (go_at_call 87; refine (HN2.out _).mono ?_; rintro e w' ⟨rfl, d, rfl⟩) | (go_at_call 88; refine (HN3.out _ (HV.out.lay _)).mono ?_; rintro e w' ⟨rfl, d, rfl⟩))
              go_ret
              exact ⟨ret_bool HB.out, lay_ex _ _⟩
        · have HB := Lib.hid (HAll.out (fun i x hi hx => HA.out i x (by omega) hx))
          have x1 : ¬ (k : Int) < (m : Int) := by omega
          go_wp2
          go_ret
          exact ⟨ret_bool HB.out, lay_ex _ _⟩
end Go.Proofs.YtkhhdpndcidmgaaGreat
/- Valid catalogues in the reference. -/
namespace Go.Proofs.YtkhhdpndcidmgaaGreat
open Go.RowKit Go.Shelf

end Go.Proofs.YtkhhdpndcidmgaaGreat
/- almanac.New without pages: what it calls. -/
namespace Go.Proofs.YtkhhdpndcidmgaaGreat
set_option maxHeartbeats 1000000
open Go.RowKit Go.Shelf

theorem pgs_IndexFunc_nil (a : Option Addr) (c : Nat) (f : Value) (w : World) :
    Calls Tryz.prog 84 #[.slice a 0 c, f] w fun e w' => e = .returned (.int .i64 (-1)) ∧ ∃ d, w' = bw w d := by
  refine lay_start ?_
  go_enter Tryz.func84, Tryz.ntmps84
  go_wp2_with fail
  refine wp_loop_rounds 1 ?_
  rw [rounds_succ]
  go_wp2
  go_ret
  exact ⟨rfl, lay_ex _ _⟩
theorem pgs_ContainsFunc_nil (a : Option Addr) (c : Nat) (f : Value) (w : World) :
    Calls Tryz.prog 48 #[.slice a 0 c, f] w fun e w' => e = .returned (.bool false) ∧ ∃ d, w' = bw w d := by
  refine lay_start ?_
  go_enter Tryz.func48, Tryz.ntmps48
  go_wp2_with (go_at_call 84; refine (pgs_IndexFunc_nil _ _ _ _).mono ?_; rintro e w' ⟨rfl, d, rfl⟩)
  go_ret
  exact ⟨rfl, lay_ex _ _⟩
theorem pgs_Clone_nil (w : World) :
    Calls Tryz.prog 89 #[.slice none 0 0] w fun e w' => e = .returned (.slice none 0 0) ∧ ∃ d, w' = bw w d := by
  refine lay_start ?_
  have qT : ∀ (w : World) (a : Option Addr) (n c : Nat), (binOp .eql 88 (.slice a n c) (.slice none 0 0)).run Tryz.prog w = .ok (.bool a.isNone) w := fun w a n c => Lib.run_eql_slice_nil w _ _ a n c 0 0 pgOk.und
  go_enter Tryz.func89, Tryz.ntmps89
  go_wp2_with fail
  go_ret
  exact ⟨rfl, lay_ex _ _⟩
theorem alm_copied_nil (w : World) :
    Calls Tryz.prog 52 #[.slice none 0 0] w fun e w' => e = .returned (.slice none 0 0) ∧ ∃ d, w' = bw w d := by
  refine lay_start ?_
  go_enter Tryz.func52, Tryz.ntmps52
  go_wp2_with (go_at_call 89; refine (pgs_Clone_nil _).mono ?_; rintro e w' ⟨rfl, d, rfl⟩)
  refine wp_loop_rounds 1 ?_
  rw [rounds_succ]
  go_wp2
  go_ret
  exact ⟨rfl, lay_ex _ _⟩
theorem alm_tracked_nil (bk : Nat) (vd vs : Value) (w : World) (hB : Bk w bk vd (.slice none 0 0) vs) :
    Calls Tryz.prog 55 #[.pointer (some ⟨bk, 0, none⟩)] w fun e w' => e = .returned (.slice none 0 0) ∧ ∃ d, w' = bw w d := by
  obtain ⟨k0, k1, k2, k3⟩ := hB
  refine lay_start ?_
  go_enter Tryz.func55, Tryz.ntmps55
  go_wp2_with fail
  refine wp_loop_rounds 1 ?_
  rw [rounds_succ]
  go_wp2_with (first | (go_at_call 94; refine (Tryz.slices_Sort_string_none _ _ _).mono ?_; rintro e w' ⟨rfl, rfl⟩) | (go_at_call 95; refine (Tryz.slices_Compact_string_empty _ _ _).mono ?_; rintro e w' ⟨rfl, rfl⟩))
  go_ret
  exact ⟨rfl, noExt _, (bw_noExt _).symm⟩
def isA (s : ByteArray) : Bool := s.toList == [65, 114, 105, 101, 115]
theorem alm_New2_nil (x : StarV) (b : Nat) (w : World) (hb : b < w.heap.size) (hc : w.cell? ⟨b, 0, none⟩ = some (.slice none 0 0)) :
    Calls Tryz.prog 58 #[.agg #[.string x.s, .int .i64 x.sha, .int .i64 x.dec, .int .i64 x.mag], .pointer (some ⟨b, 0, none⟩)] w fun e w' => e = .returned (.bool (isA x.s)) ∧ ∃ d, w' = bw w d := by
  obtain ⟨xs, x1, x2, x3⟩ := x
  dsimp only
  have ho : isA xs = (xs.toList == [65, 114, 105, 101, 115]) := rfl
  cases h : isA xs
  · rw [h] at ho
    have t1 := ho.symm
    clear ho h
    refine lay_start ?_
    go_enter Tryz.func58, Tryz.ntmps58
    go_wp2_with (go_at_call 56; refine (Tryz.slices_Contains_string_empty _ _ _ _).mono ?_; rintro e w' ⟨rfl, rfl⟩)
    go_ret
    exact ⟨rfl, lay_ex _ _⟩
  · rw [h] at ho
    have t1 := ho.symm
    clear ho h
    refine lay_start ?_
    go_enter Tryz.func58, Tryz.ntmps58
    go_wp2_with (go_at_call 56; refine (Tryz.slices_Contains_string_empty _ _ _ _).mono ?_; rintro e w' ⟨rfl, rfl⟩)
    go_ret
    exact ⟨rfl, lay_ex _ _⟩
theorem st_ContainsFunc (g : FuncId) (lb : List Value) (p : StarV → Bool) (v : Value) (l : List StarV) (w : World) (hv : SlG stR w v l)
    (eI : ∀ args w, (callFunc g args).run Tryz.prog w = .ok (.enter g args) w)
    (hf : ∀ x ∈ l, ∀ d, Calls Tryz.prog g (.agg (stR.enc x).toArray :: lb).toArray (bw w d) fun e w' => e = .returned (.bool (p x)) ∧ ∃ d, w' = bw w d) :
    Calls Tryz.prog 57 #[v, .func (.func g) #[] lb.toArray] w fun e w' => e = .returned (.bool (l.any p)) ∧ ∃ d, w' = bw w d := by
  have H := Lib.hid (st_IndexFunc g lb p v l w hv eI hf)
  have HS := Lib.hid (idxR_any p l 0)
  generalize idxR p l 0 = x at *
  generalize l.any p = y at *
  clear hf eI hv
  refine lay_start ?_
  go_enter Tryz.func57, Tryz.ntmps57
  go_wp2_with (go_at_call 60; refine H.out.mono ?_; rintro e w' ⟨rfl, d, rfl⟩)
  go_ret
  exact ⟨ret_bool HS.out, _, rfl⟩
end Go.Proofs.YtkhhdpndcidmgaaGreat
/- almanac.New without pages. -/
namespace Go.Proofs.YtkhhdpndcidmgaaGreat
open Go.RowKit Go.Shelf

def NewPost0 (w : World) (l : List StarV) (e : Ending) (w' : World) : Prop :=
  ∃ bk vs d, e = .returned (.tuple #[.pointer (some ⟨bk, 0, none⟩), .int .i64 0]) ∧ w' = bw w d ∧ Bk (bw w d) bk (.slice none 0 0) (.slice none 0 0) vs ∧ SlG stR (bw w d) vs l
theorem bk_new0 (w : World) (L : List (Obj ⊕ Ext)) (t : TypeId) (vd vp vs : Value) : Bk (lay w (.inl (.cells #[vd, vp, vs] t (0, 0)) :: L)) (posn w (shp L)) vd vp vs := by
  have h := lay_get w (.inl (.cells #[vd, vp, vs] t (0, 0)) :: L) 0 _ rfl
  refine ⟨(Array.getElem?_eq_some_iff.1 h).1, ?_, ?_, ?_⟩ <;> (unfold World.cell?; rw [show posn w (shp L) = posn w ((shp (.inl (.cells #[vd, vp, vs] t (0, 0)) :: L)).drop (0 + 1)) from rfl, h]; rfl)
theorem bk_new (w : World) (A L : List (Obj ⊕ Ext)) (t : TypeId) (vd vp vs : Value) : Bk (lay w (A ++ .inl (.cells #[vd, vp, vs] t (0, 0)) :: L)) (posn w (shp L)) vd vp vs := by
  rw [lay_appG]
  exact (bk_new0 w L t vd vp vs).lay A
set_option maxHeartbeats 1000000 in
set_option maxRecDepth 100000 in
theorem alm_New_nil3 (v : Value) (l : List StarV) (w : World) (hv : SlG stR w v l) (h : catB l = true) (hA : l.any (fun x => isA x.s) = false) :
    Calls Tryz.prog 17 #[.slice none 0 0, v] w (NewPost0 w l) := by
  have hlen := (catB_iff.1 h).len
  have HC := Lib.hid (fun L => cat_Valid v l (lay w L) (hv.lay L))
  rw [h] at HC
  have HCl := Lib.hid (fun L => cln_Star v l (lay w L) (hv.lay L) (by omega))
  have eI : ∀ args w, (callFunc 58 args).run Tryz.prog w = .ok (.enter 58 args) w := enters_of Tryz.func58 (by kernel_rfl) rfl
  have HI := Lib.hid (fun L b' (hb : b' < (lay w L).heap.size) (hc : ∀ d, (lay w (.inr d :: L)).cell? ⟨b', 0, none⟩ = some (.slice none 0 0)) => st_ContainsFunc 58 [.pointer (some ⟨b', 0, none⟩)] (fun x => isA x.s) v l (lay w L) (hv.lay L) eI (fun x _ d =>
    alm_New2_nil x b' (lay w (.inr d :: L)) (Nat.lt_of_lt_of_le hb (bw_le _ d)) (hc d) |>.mono fun e w' ⟨h1, d2, h2⟩ => ⟨h1, _, h2.trans (bw_bw _ _ _)⟩))
  rw [hA] at HI
  clear h hv hA hlen eI
  unfold NewPost0
  refine lay_start ?_
  go_enter Tryz.func17, Tryz.ntmps17
  go_wp2_with (first | (go_at_call 48; refine (pgs_ContainsFunc_nil _ _ _ _).mono ?_; rintro e w' ⟨rfl, d1, rfl⟩) | (go_at_call 51; refine (HC.out _).mono ?_; rintro e w' ⟨rfl, d2, rfl⟩) | (go_at_call 52; refine (alm_copied_nil _).mono ?_; rintro e w' ⟨rfl, d3, rfl⟩))
  refine (HCl.out _).mono ?_
  rintro e w' ⟨v', d4, rfl, rfl, h4⟩
  have H4 := Lib.hid (h4.sl stOk)
  obtain ⟨va, vc, rfl⟩ := h4.form
  clear h4
  rw [lay_bw] at H4 ⊢
  go_wp2_with fail
  refine wp_loop_rounds 1 ?_
  rw [rounds_succ]
  go_wp2_with fail
  refine (alm_tracked_nil _ _ _ _ (bk_new0 w [.inr d4, .inr d3, .inr d2, .inr d1] _ _ _ _)).mono ?_
  rintro e w' ⟨rfl, d5, rfl⟩
  rw [lay_bw]
  go_wp2_with (first | (go_at_call 56; refine (Tryz.slices_Contains_string_empty _ _ _ _).mono ?_; rintro e w' ⟨rfl, rfl⟩))
  refine (HI.out _ _ (by simp only [lay_size, shp, posn, List.sum_cons, List.sum_nil]; omega) (fun d => by simp [go_sem])).mono ?_
  rintro e w' ⟨rfl, d6, rfl⟩
  rw [lay_bw]
  go_wp2_with fail
  obtain ⟨z, hz⟩ := lay_ex w [.inr d6, .inl (.cells #[.slice none 0 0] 103 (0, 0)), .inr d5, .inl (.cells #[.slice none 0 0, .slice none 0 0, .slice va l.length vc] 100 (0, 0)), .inr d4, .inr d3, .inr d2, .inr d1]
  exact bodyPost_ret (v := .tuple #[.pointer (some ⟨posn w (shp [.inr d4, .inr d3, .inr d2, .inr d1]), 0, none⟩), .int .i64 0]) (by simp [results, Tryz.results17, go_sem]) rfl
    ⟨_, _, z, rfl, hz, hz ▸ bk_new w [_, _, _] _ _ _ _ _, hz ▸ slG_on (A := [_, _, _, _]) H4.out⟩
end Go.Proofs.YtkhhdpndcidmgaaGreat
/- Rows of strings; (*almanac.Book).Bodies. -/
namespace Go.Proofs.YtkhhdpndcidmgaaGreat
open Go.RowKit

def strR : RecT ByteArray := { E := 9, S := 103, k := 1, bytes := 16, enc := fun x => [.string x], wf := fun x => x.size ≤ 9223372036854775807 }
theorem info_str : (Tryz.prog.info? 9).map (fun i => (i.zero.map (fun z => z.cells.size), i.size, i.bytes)) = some (some 1, 1, 16) := by kernel_rfl
theorem strOk : RecOk strR where
  len _ := rfl
  one x u hu := by
    simp only [strR, List.mem_cons, List.not_mem_nil, or_false] at hu
    rcases hu with rfl
    rfl
  pos := by decide
  und := Tryz.underlying103
  info := recInfo info_str
  small := by decide
def StrPost (w : World) (T : List ByteArray) (e : Ending) (w' : World) : Prop := ∃ A c d, e = .returned (.slice A T.length c) ∧ w' = bw w d ∧ (A = none → c = 0) ∧ SlG strR (bw w d) (.slice A T.length c) T
def StrOwn (w : World) (T : List ByteArray) (e : Ending) (w' : World) : Prop := ∃ v d, e = .returned v ∧ w' = bw w d ∧ OwG strR (bw w d) w.heap.size v T
theorem str_flat1 (s : ByteArray) : (#[Value.string s] : Array Value).toList = [s].flatMap strR.enc := rfl
theorem aries_wf : ∀ x ∈ [ariesS], strR.wf x := by
  intro x hx
  rw [List.mem_singleton.1 hx]
  exact (by decide : ariesS.size ≤ 9223372036854775807)
set_option maxHeartbeats 1000000 in
set_option maxRecDepth 100000 in
theorem alm_Bodies (bk : Nat) (vd vp vs : Value) (l : List StarV) (T : List ByteArray) (w : World) (hB : Bk w bk vd vp vs) (hv : SlG stR w vs l)
    (hT : ∀ L, Calls Tryz.prog 55 #[.pointer (some ⟨bk, 0, none⟩)] (lay w L) (StrPost (lay w L) T)) (hl : l.length ≤ 1000000) (hT1 : T.length ≤ 1000000) :
    Calls Tryz.prog 107 #[.pointer (some ⟨bk, 0, none⟩)] w (StrOwn w ([ariesS] ++ T ++ l.map StarV.s)) := by
  have HT := Lib.hid hT
  have HT1 := Lib.hid hT1
  have HL := Lib.hid hl
  have HV := Lib.hid hv
  obtain ⟨k0, k1, k2, k3⟩ := hB
  clear hT hl hT1
  by_cases hz : l = []
  · subst hz
    obtain ⟨sa, sc, rfl⟩ := hv.form
    clear hv
    refine lay_start ?_
    go_enter Tryz.func107, Tryz.ntmps107
    go_wp2_with fail
    refine (HT.out _).mono ?_
    rintro e w' ⟨A, c, d1, rfl, rfl, hA, hS⟩
    rw [lay_bw] at hS ⊢
    have HS := Lib.hid hS
    have HA := Lib.hid hA
    clear hS hA
    go_wp2_with (at_builtin; refine push_slG strOk rfl _ _ rfl (lay w []) _ _ [ariesS] A T.length c T (lay_belowG (A := [_, _]) (B := [])) (owG_on (A := [_]) (owG_lit strOk [ariesS] (str_flat1 _) (by decide) aries_wf)) HS.out HA.out rfl rfl (by have := HT1.out; simp only [List.length_cons, List.length_nil]; omega) ?_; intro v2 d2 hv2)
    obtain ⟨Q0, hQ0⟩ : ∃ Q0, Q0 = [ariesS] ++ T := ⟨_, rfl⟩
    have HQ0 := Lib.hid hQ0
    rw [← hQ0] at hv2
    have H2 := Lib.hid hv2
    obtain ⟨va, vc, rfl⟩ := hv2.form
    clear hv2 hQ0
    generalize Q0.length = n0 at *
    go_wp2_with fail
    refine wp_loop_rounds 1 ?_
    rw [rounds_succ]
    go_wp2_with fail
    go_ret
    refine ⟨_, d2, rfl, rfl, ?_⟩
    have h := H2.out
    rw [HQ0.out, ← List.append_nil ([ariesS] ++ T)] at h
    exact h
  · obtain ⟨bs, os, cs, rfl, hcs, hbs, hr⟩ := hv.open (List.length_pos_iff.2 hz)
    obtain ⟨m, hm⟩ : ∃ m, l.length = m := ⟨_, rfl⟩
    have HM := Lib.hid hm
    have HR : Hid (∀ i x, l[i]? = some x → w.cell? ⟨bs, os + i * 4, none⟩ = some (.string x.s) ∧ w.cell? ⟨bs, os + i * 4 + 1, none⟩ = some (.int .i64 x.sha) ∧ w.cell? ⟨bs, os + i * 4 + 2, none⟩ = some (.int .i64 x.dec) ∧ w.cell? ⟨bs, os + i * 4 + 3, none⟩ = some (.int .i64 x.mag)) :=
      Lib.hid (fun i x hx => ⟨hr i x hx 0 _ rfl, hr i x hx 1 _ rfl, hr i x hx 2 _ rfl, hr i x hx 3 _ rfl⟩)
    have HW := Lib.hid hv.wf
    rw [hm] at hcs k3 HL
    clear hv hr hz hm HV
    refine lay_start ?_
    go_enter Tryz.func107, Tryz.ntmps107
    go_wp2_with fail
    refine (HT.out _).mono ?_
    rintro e w' ⟨A, c, d1, rfl, rfl, hA, hS⟩
    rw [lay_bw] at hS ⊢
    have HS := Lib.hid hS
    have HA := Lib.hid hA
    clear hS hA
    go_wp2_with (at_builtin; refine push_slG strOk rfl _ _ rfl (lay w []) _ _ [ariesS] A T.length c T (lay_belowG (A := [_, _]) (B := [])) (owG_on (A := [_]) (owG_lit strOk [ariesS] (str_flat1 _) (by decide) aries_wf)) HS.out HA.out rfl rfl (by have := HT1.out; simp only [List.length_cons, List.length_nil]; omega) ?_; intro v2 d2 hv2)
    obtain ⟨Q0, hQ0⟩ : ∃ Q0, Q0 = [ariesS] ++ T := ⟨_, rfl⟩
    have HQ0 := Lib.hid hQ0
    rw [← hQ0] at hv2
    have H2 := Lib.hid hv2
    obtain ⟨va, vc, rfl⟩ := hv2.form
    clear hv2 hQ0
    generalize Q0.length = n0 at *
    go_wp2_with fail
    go_loopw [3, 17] (fun v3 v17 wr => ∃ (i : Nat) (d : Ext), i ≤ m ∧ v17 = .int .i64 (i : Int) ∧ wr = lay w [.inr d] ∧ OwG strR (lay w [.inr d]) w.heap.size v3 (Q0 ++ (l.take i).map StarV.s)) (fun _ v17 _ => m - (intOf v17).toNat)
    case atStart => exact ⟨0, d2, Nat.zero_le _, rfl, rfl, by have h := H2.out; rw [← List.append_nil Q0] at h; exact h⟩
    case round =>
      obtain ⟨i, d, hi, rfl, rfl, hO⟩ := hrel
      have HO := Lib.hid hO
      clear hO
      by_cases hlt : i < m
      · obtain ⟨x, hx⟩ : ∃ x, l[i]? = some x := ⟨_, List.getElem?_eq_getElem (by rw [HM.out]; exact hlt)⟩
        obtain ⟨e0, e1, e2, e3⟩ := HR.out i x hx
        have HX := Lib.hid hx
        have x1 : (i : Int) < (m : Int) := by omega
        have x0 : (0 : Int) ≤ (i : Int) := by omega
        have HWx := Lib.hid (HW.out x (List.mem_of_getElem? hx)).1
        have HLn : Hid ((Q0 ++ (l.take i).map StarV.s).length ≤ 1000000000) := Lib.hid (by have h1 := HT1.out; have h2 := HL.out; rw [HQ0.out]; simp only [List.length_append, List.length_map, List.length_take, List.length_cons, List.length_nil]; omega)
        have HN : Hid (Q0 ++ (l.take i).map StarV.s ++ [x.s] = Q0 ++ (l.take (i + 1)).map StarV.s) := Lib.hid (by rw [List.take_add_one, hx]; simp)
        clear hx
        generalize hQ : Q0 ++ (l.take i).map StarV.s = Q at *
        clear hQ
        obtain ⟨xs, xa, xb, xc⟩ := x
        dsimp only at e0 e1 e2 e3 HWx HN
        go_wp2_with (at_builtin; refine push_rec strOk rfl _ _ rfl (lay w []) _ xs #[.string xs] 9 (posn w [1, d.n]) _ Q (lay_belowG (A := [_, _, _]) (B := [])) (owG_on (A := [_, _]) HO.out) (lay_get w _ 0 _ rfl) rfl rfl rfl HLn.out HWx.out ?_; intro v3 d3 hv3)
        have H3 := Lib.hid hv3
        clear hv3
        go_wp2_with fail
        go_roundw
        case rel =>
          exact ⟨i + 1, d3, by omega, by go_num, rfl, by have h3 := H3.out; rw [HN.out] at h3; exact h3⟩
        case measure => simp [intOf]; omega
      · obtain rfl : i = m := by omega
        have x1 : ¬ (i : Int) < (i : Int) := by omega
        have HN : Hid (l.take i = l) := Lib.hid (by rw [← HM.out]; exact List.take_length)
        rw [HN.out] at HO
        go_wp2_with fail
        go_ret
        exact ⟨_, d, rfl, rfl, by have h := HO.out; rw [HQ0.out] at h; exact h⟩
end Go.Proofs.YtkhhdpndcidmgaaGreat

/- Contracts and plain laws, several texts in one: Nwc; Nwd; Mde; Inc1; Pg4; Pg5 -/
import Derived.Test.YthjfadfebhjhbaaGreatProg
import Derived.WalkKit
import Derived.WalkSpells
import Derived.WalkLawsBesides
import Derived.Lib.Hide
import Derived.BigQuiet
import Derived.Deep.RegionWith
import Derived.Maps.Own
import Derived.Test.YthjfadfebhjhbaaGreatPAA
import Derived.Test.YthjfadfebhjhbaaGreatPAB
import Derived.Test.YthjfadfebhjhbaaGreatPAC
import Derived.Test.YthjfadfebhjhbaaGreatPAD
import Derived.Test.YthjfadfebhjhbaaGreatPAE
import Derived.Test.YthjfadfebhjhbaaGreatPAF
import Derived.Test.YthjfadfebhjhbaaGreatPAO
/- almanac.New in full. -/
namespace Go.Proofs.YthjfadfebhjhbaaGreat
open Go.RowKit Go.Shelf

noncomputable def twB (lp : List PgV) (ls : List StarV) : Bool := Lib.containsS (tkL lp) ariesS || ls.any (fun x => twS (tkL lp) x.s)
/-- New's way where all pages and stars are valid. -/
def NewAll (w : World) (lp : List PgV) (ls : List StarV) (e : Ending) (w' : World) : Prop :=
  (OrdK lp lp.length ∧ twB lp ls = false ∧ NewPost w lp ls e w') ∨
  (OrdK lp lp.length ∧ twB lp ls = true ∧ e = .returned (.tuple #[.pointer none, .int .i64 10]) ∧ ∃ d, w' = bw w d) ∨
  (¬ OrdK lp lp.length ∧ e = .returned (.tuple #[.pointer none, .int .i64 17]) ∧ ∃ d, w' = bw w d)
theorem bad_all {lp : List PgV} (h : badP lp = false) : ∀ p ∈ lp, PgOk p := fun p hp => by
  unfold badP at h
  rw [List.any_eq_false] at h
  have := h p hp
  simpa [pgB_iff] using this
theorem bw_lay {w W : World} (h : Below w.heap.size w W) (L : List (Obj ⊕ Ext)) : ∃ d, lay W L = bw w d := by
  obtain ⟨d, rfl⟩ := bw_of h
  obtain ⟨e, he⟩ := lay_ex (bw w d) L
  exact ⟨_, he.trans (bw_bw _ _ _)⟩
theorem NwI.book {w : World} {bk H : Nat} {vp vs vd : Value} {lp : List PgV} {ls : List StarV} {k : Nat} {W : World} {d : Ext} (h : NwI w bk H vp vs vd lp ls k W d) (hk : lp.length ≤ k) (A : List (Obj ⊕ Ext)) {z : Ext} (hz : lay W (A ++ [.inr d]) = bw w z) : BkA w bk lp ls (bw w z) := by
  rw [← hz]
  have hr := h.row
  rw [List.take_of_length_le (by unfold dysL; rw [List.length_map]; exact hk)] at hr
  have hS : w.heap.size ≤ H := by rw [← h.size]; exact h.below.size
  exact ⟨h.bk0, vd, vp, vs, (show Bk W bk vd vp vs from ⟨by rw [h.size]; exact h.bk1, h.c0, h.c1, h.c2⟩).lay _, sl_on (A := A) (B := [.inr d]) hr.sl, (ow_blk hr).mono fun b hb => ⟨Nat.le_trans hS hb, by have := h.bk1; omega⟩, h.pgs.lay _, h.sts.lay _, h.stb⟩
theorem ow_form' {w : World} {base : Nat} {v : Value} {l : List Int} (h : Ow w base v l) : ∃ a n c, v = .slice a n c := by
  obtain ⟨a, c, e⟩ := h.form
  exact ⟨a, _, c, e⟩
set_option maxHeartbeats 4000000 in
set_option maxRecDepth 100000 in
theorem alm_New_main {P : Nat → Prop} (vp vs : Value) (lp : List PgV) (ls : List StarV) (w : World) (hp : PgsD P w vp lp) (hP : ∀ b, P b → b < w.heap.size) (hv : SlG stR w vs ls) (h : lp.length ≤ 40) (hb : badP lp = false) (hc : catB ls = true) :
    Calls Tryz.prog 41 #[vp, vs] w (NewAll w lp ls) := by
  have hok := bad_all hb
  have hlen := (catB_iff.1 hc).len
  have HOk := Lib.hid hok
  have HC := Lib.hid (fun L => cat_Valid vs ls (lay w L) (hv.lay L))
  rw [hc] at HC
  have HB := Lib.hid (fun L => pgs_bad vp lp (lay w L) (hp.lay L))
  change Hid (∀ L, Calls _ _ _ _ fun e w' => e = .returned (.bool (badP lp)) ∧ _) at HB
  rw [hb] at HB
  have HCp := Lib.hid (fun L => alm_copied vp lp (lay w L) (hp.lay L) (fun b hb => Nat.lt_of_lt_of_le (hP b hb) (lay_extends w L).size) (by omega) (fun p hpm => by have := (hok p hpm).len; omega) (fun p hpm t ht => by
    obtain ⟨i, hi, rfl⟩ := List.getElem_of_mem ht
    have := (hok p hpm).ok i p.ts[i] (List.getElem?_eq_getElem hi)
    have h1 := (trkB_iff.1 this.1).lg
    have h2 := (trkB_iff.1 this.1).ld
    omega))
  have HCl := Lib.hid (fun L => cln_Star vs ls (lay w L) (hv.lay L) (by omega))
  have HPg := Lib.hid hp
  have HVs := Lib.hid hv
  obtain ⟨a, c, rfl⟩ := pgs_form hp
  obtain ⟨q, hq⟩ : ∃ q, lp.length = q := ⟨_, rfl⟩
  have HQ := Lib.hid hq
  rw [hq] at h HB HCp HPg ⊢
  have x1 : ¬ (40 : Int) < (q : Int) := by omega
  clear hp hq hv hok hlen hb hc
  refine lay_start ?_
  go_enter Tryz.func41, Tryz.ntmps41
  go_wp2_with (first | (go_at_call 79; refine (HB.out _).mono ?_; rintro e w' ⟨rfl, d1, rfl⟩) | (go_at_call 87; refine (HC.out _).mono ?_; rintro e w' ⟨rfl, d2, rfl⟩))
  refine (HCp.out _).mono ?_
  rintro e w' ⟨A, cA, d3, rfl, rfl, hA⟩
  rw [lay_bw] at hA ⊢
  have HA := Lib.hid hA
  clear hA
  go_wp2_with fail
  refine (HCl.out _).mono ?_
  rintro e w' ⟨v', d4, rfl, rfl, h4⟩
  rw [lay_bw] at h4 ⊢
  obtain ⟨va, vc, rfl⟩ := h4.form
  have H4 := Lib.hid h4
  clear h4
  rw [HQ.out] at HA ⊢
  go_wp2_with fail
  obtain ⟨bk, hbk⟩ : ∃ bk, posn w [d4.n, d3.n, d2.n, d1.n] = bk := ⟨_, rfl⟩
  obtain ⟨W0, hW0⟩ : ∃ W0, lay w [.inl (.cells #[.slice none 0 0, .slice A q cA, .slice va ls.length vc] 148 (0, 0)), .inr d4, .inr d3, .inr d2, .inr d1] = W0 := ⟨_, rfl⟩
  have hI : NwI w bk W0.heap.size (.slice A q cA) (.slice va ls.length vc) (.slice none 0 0) lp ls 0 W0 (noExt W0) := by
    rw [← hbk, ← hW0]
    exact nwI_new w [.inr d4] [.inr d3, .inr d2, .inr d1] _ _ _ lp ls (HA.out.mono fun b hb => Nat.le_trans (lay_extends w [.inr d2, .inr d1]).size hb) (H4.out.le (lay_extends w [.inr d3, .inr d2, .inr d1]).size)
  have HI := Lib.hid hI
  rw [hbk, hW0]
  obtain ⟨H, hH⟩ : ∃ H, W0.heap.size = H := ⟨_, rfl⟩
  rw [hH] at HI
  clear hI hbk hW0 HA H4 hH
  go_loopw [30] (fun v30 wr => ∃ (i : Nat) (d : Ext) (W : World) (vd : Value), i ≤ q ∧ v30 = .int .i64 (i : Int) ∧ wr = lay W [.inr d] ∧ NwI w bk H (.slice A q cA) (.slice va ls.length vc) vd lp ls i W d ∧ OrdK lp i) (fun v30 _ => q - (intOf v30).toNat)
  case atStart => exact ⟨0, noExt W0, W0, _, Nat.zero_le _, rfl, (bw_noExt W0).symm, HI.out, fun i p q hi => absurd hi (by omega)⟩
  case round =>
    clear HI
    obtain ⟨i, d, W, vd, hi, rfl, rfl, hI, hO⟩ := hrel
    have HI := Lib.hid hI
    have HO := Lib.hid hO
    clear hI hO
    by_cases hlt : i < q
    · obtain ⟨p, hpp⟩ : ∃ p, lp[i]? = some p := ⟨_, List.getElem?_eq_getElem (by rw [HQ.out]; exact hlt)⟩
      have hpW : PgsD P W (.slice a q c) lp := HPg.out.keep HI.out.below.size (fun b _ hb => HI.out.below.block b hb)
      obtain ⟨b, o, cap, hv1, hcc, hbb, -, hr⟩ := hpW.open (by rw [HQ.out]; omega)
      rw [HQ.out] at hv1 hcc
      cases hv1
      obtain ⟨x, hw, hD, c0, c1, c2, c3⟩ := hr i p hpp
      have hok := HOk.out p (List.mem_of_getElem? hpp)
      have HNum := Lib.hid (fun L => cal_Number x.y x.m x.d (lay W L))
      have hdx := hok.dt
      rw [← hD.y, ← hD.m, ← hD.d] at hdx
      rw [hdx, if_pos rfl, if_pos rfl] at HNum
      have x2 : (i : Int) < (q : Int) := by omega
      have x3 : (0 : Int) ≤ (i : Int) := by omega
      clear hpW hr
      go_wp2_with fail
      refine (HNum.out _).mono ?_
      rintro e w' ⟨rfl, d5, rfl⟩
      obtain ⟨N0, hN0⟩ : ∃ N0, numI x.y x.m x.d = N0 := ⟨_, rfl⟩
      have HN0 := Lib.hid hN0
      rw [lay_bw, hN0]
      clear hN0 hdx
      have k0 := HI.out.c0
      have kz := HI.out.fz
      have kb : bk < W.heap.size := by rw [HI.out.size]; exact HI.out.bk1
      have HR0 : Hid (Ow (lay W [.inr d]) W.heap.size vd ((dysL lp).take i)) := Lib.hid (by rw [HI.out.size]; exact HI.out.row)
      have HRl : Hid (((dysL lp).take i).length ≤ 1000000000) := Lib.hid (by rw [List.length_take]; omega)
      have HNw : Hid ((Lit.int .i64 N0).wf = true) := Lib.hid (by
        have h1 := hok.lo
        have h2 := hok.hi
        rw [← hD.y, ← hD.m, ← hD.d, HN0.out] at h1 h2
        simp [Lit.wf, IntKind.min, IntKind.max, IntKind.bits, IntKind.signed]
        omega)
      have HTk : Hid ((dysL lp).take i ++ [N0] = (dysL lp).take (i + 1)) := Lib.hid (by
        rw [List.take_add_one]
        have : (dysL lp)[i]? = some N0 := by unfold dysL; rw [List.getElem?_map, hpp, ← HN0.out, hD.y, hD.m, hD.d]; rfl
        rw [this]; rfl)
      by_cases hi0 : i = 0
      · subst hi0
        have x4 : ¬ (0 : Int) < ((0 : Nat) : Int) := by decide
        go_wp2_with (at_builtin; refine push_int rfl _ _ rfl (lay W []) _ N0 3 (posn W [d5.n, 1, d.n]) vd _ (lay_below (A := [_, _, _, _]) (B := [])) (ow_on (A := [_, _, _]) HR0.out) (lay_get W _ 0 _ rfl) rfl rfl HRl.out HNw.out ?_; intro vd' d' hv'; obtain ⟨ga, gn, gc, eg⟩ := ow_form' hv'; subst eg; have HV' := Lib.hid hv'; clear hv')
        go_roundw
        case rel => exact ⟨1, d', W.setCell ⟨bk, 0, none⟩ (.slice ga gn gc), _, by omega, rfl, bw_setCell W d' bk 0 _ kb, HI.out.step (by have h := HV'.out; rw [HTk.out] at h; rw [← HI.out.size]; exact h), fun j p q hj => absurd hj (by omega)⟩
        case measure => simp [intOf]; omega
      · obtain ⟨j, rfl⟩ : ∃ j, i = j + 1 := ⟨i - 1, by omega⟩
        obtain ⟨p0, hp0⟩ : ∃ p0, lp[j]? = some p0 := ⟨_, List.getElem?_eq_getElem (by rw [HQ.out]; omega)⟩
        have hlr : ((dysL lp).take (j + 1)).length = j + 1 := by rw [List.length_take]; unfold dysL; rw [List.length_map, HQ.out]; omega
        obtain ⟨g, cap', hvd, hg1, hg2, hg3, hg4⟩ := HR0.out.form1 (by omega)
        rw [hlr] at hvd hg3
        obtain ⟨N1, hN1⟩ : ∃ N1, numI p0.y p0.m p0.d = N1 := ⟨_, rfl⟩
        have hnth : nth ((dysL lp).take (j + 1)) j = N1 := by
          have : ((dysL lp).take (j + 1))[j]? = some N1 := by
            rw [List.getElem?_take_of_lt (by omega)]
            unfold dysL; rw [List.getElem?_map, hp0, ← hN1]; rfl
          unfold nth
          rw [List.getD, this]; rfl
        have e1 : ∀ A, (lay W (A ++ [.inr d])).cell? ⟨g, j, none⟩ = some (.int .i64 N1) := fun A => by
          have h := (ow_on (A := A) HR0.out)
          rw [hvd] at h
          have := h.cell (i := j) (by omega)
          rw [hnth] at this
          exact this
        have e2 := e1 [.inr d5, .inl (.cells #[.int .i64 x.y, .int .i64 x.m, .int .i64 x.d, .slice x.ta x.tn x.tc] 138 (0, 0))]
        change (lay W [.inr d5, .inl (.cells #[.int .i64 x.y, .int .i64 x.m, .int .i64 x.d, .slice x.ta x.tn x.tc] 138 (0, 0)), .inr d]).cell? ⟨g, j, none⟩ = some (.int .i64 N1) at e2
        have HE1 := Lib.hid e1
        have HN1 := Lib.hid hN1
        have HP0 := Lib.hid hp0
        subst hvd
        clear e1 hN1 hp0 hnth hlr
        have x4 : (0 : Int) < (j : Int) + 1 := by omega
        have x5 : IntKind.i64.wrap ((j : Int) + 1 - 1) = (j : Int) := by rw [IntWalk.i64_in _ (by omega)]; omega
        have x6 : (0 : Int) ≤ (j : Int) := by omega
        have x7 : (j : Int) < (j : Int) + 1 := by omega
        have x8 : ((j + 1 : Nat) : Int) = (j : Int) + 1 := by omega
        rw [x8]
        rw [x8] at x2 x3
        by_cases hle : N0 ≤ N1
        · have HNo : Hid (¬ OrdK lp lp.length) := Lib.hid (fun h => by
            have := h j p0 p (by rw [HQ.out]; omega) HP0.out hpp
            rw [HN1.out, ← hD.y, ← hD.m, ← hD.d, HN0.out] at this
            omega)
          go_wp2_with fail
          exact bodyPost_ret (v := .tuple #[.pointer none, .int .i64 17]) (by simp [results, Tryz.results41, go_sem]) rfl (.inr (.inr ⟨HNo.out, rfl, bw_lay HI.out.below _⟩))
        · have hgt : N1 < N0 := by omega
          go_wp2_with (at_builtin; refine push_int rfl _ _ rfl (lay W []) _ N0 3 (posn W [d5.n, 1, d.n]) _ _ (lay_below (A := [_, _, _, _]) (B := [])) (ow_on (A := [_, _, _]) HR0.out) (lay_get W _ 0 _ rfl) rfl rfl HRl.out HNw.out ?_; intro vd' d' hv'; obtain ⟨ga, gn, gc, eg⟩ := ow_form' hv'; subst eg; have HV' := Lib.hid hv'; clear hv')
          go_roundw
          case rel => exact ⟨j + 2, d', W.setCell ⟨bk, 0, none⟩ (.slice ga gn gc), _, by omega, by go_num, bw_setCell W d' bk 0 _ kb, HI.out.step (by have h := HV'.out; rw [HTk.out] at h; rw [← HI.out.size]; exact h), fun u p' q' hu h1 h2 => by
            by_cases huj : u = j
            · subst huj
              rw [HP0.out] at h1; cases h1
              rw [hpp] at h2; cases h2
              rw [HN1.out, ← hD.y, ← hD.m, ← hD.d, HN0.out]; exact hgt
            · exact HO.out u p' q' (by omega) h1 h2⟩
          case measure => simp [intOf]; omega
    · have hiq : i = q := by omega
      have x2 : ¬ (i : Int) < (q : Int) := by omega
      have HOr : Hid (OrdK lp lp.length) := Lib.hid (by rw [HQ.out, ← hiq]; exact HO.out)
      have hF : Few lp := ⟨by rw [HQ.out]; omega, fun p hp => by have := (HOk.out p hp).len; omega⟩
      have hB : Bk W bk vd (.slice A q cA) (.slice va ls.length vc) := ⟨by rw [HI.out.size]; exact HI.out.bk1, HI.out.c0, HI.out.c1, HI.out.c2⟩
      have HT := Lib.hid (alm_tracked bk vd (.slice A q cA) (.slice va ls.length vc) lp (lay W [.inr d]) (hB.lay _) (HI.out.pgs.lay _) hF)
      clear hF hB
      go_wp2_with fail
      refine HT.out.mono ?_
      rintro e w' ⟨ta, tc, d6, rfl, rfl, hTn, hTs⟩
      rw [lay_bw] at hTs ⊢
      have HTs := Lib.hid hTs
      clear hTs hTn
      go_wp2_with fail
      have HCn := Lib.hid (str_Contains (.slice ta (tkL lp).length tc) (tkL lp) ariesS (lay W [.inl (.cells #[.slice ta (tkL lp).length tc] 119 (0, 0)), .inr d6, .inr d]) (slG_on (A := [_]) HTs.out))
      have eI : ∀ args w, (callFunc 93 args).run Tryz.prog w = .ok (.enter 93 args) w := enters_of Tryz.func93 (by kernel_rfl) rfl
      have HSt := Lib.hid (st_ContainsFunc 93 [.pointer (some ⟨posn W [d6.n, d.n], 0, none⟩)] (fun x => twS (tkL lp) x.s) vs ls (lay W [.inl (.cells #[.slice ta (tkL lp).length tc] 119 (0, 0)), .inr d6, .inr d]) ((HVs.out.ext HI.out.below).lay _) eI (fun x _ e =>
        (alm_New2 x (tkL lp) (.slice ta (tkL lp).length tc) (posn W [d6.n, d.n]) (lay W [.inr e, .inl (.cells #[.slice ta (tkL lp).length tc] 119 (0, 0)), .inr d6, .inr d]) (by simp only [lay_size, shp, posn, List.sum_cons, List.sum_nil]; omega) (by simp [go_sem]) (slG_on (A := [_, _]) HTs.out)).mono fun e w' ⟨h1, d2, h2⟩ => ⟨h1, _, h2.trans (bw_bw _ _ _)⟩))
      have HTw : Hid (twB lp ls = (Lib.containsS (tkL lp) ariesS || ls.any (fun x => twS (tkL lp) x.s))) := Lib.hid rfl
      clear eI
      generalize Lib.containsS (tkL lp) ariesS = r1 at *
      generalize ls.any (fun x => twS (tkL lp) x.s) = r2 at *
      go_wp2_with fail
      refine HCn.out.mono ?_
      rintro e w' ⟨rfl, rfl⟩
      cases r1
      · go_wp2_with fail
        refine HSt.out.mono ?_
        rintro e w' ⟨rfl, d7, rfl⟩
        cases r2
        · go_wp2_with fail
          obtain ⟨z, hz⟩ := bw_lay HI.out.below [.inr d7, .inl (.cells #[.slice ta (tkL lp).length tc] 119 (0, 0)), .inr d6, .inr d]
          exact bodyPost_ret (v := .tuple #[.pointer (some ⟨bk, 0, none⟩), .int .i64 0]) (by simp [results, Tryz.results41, go_sem]) rfl (.inl ⟨HOr.out, HTw.out, bk, z, rfl, hz, HI.out.book (by rw [HQ.out]; omega) [.inr d7, .inl (.cells #[.slice ta (tkL lp).length tc] 119 (0, 0)), .inr d6] hz⟩)
        · go_wp2_with fail
          exact bodyPost_ret (v := .tuple #[.pointer none, .int .i64 10]) (by simp [results, Tryz.results41, go_sem]) rfl (.inr (.inl ⟨HOr.out, HTw.out, rfl, bw_lay HI.out.below _⟩))
      · go_wp2_with fail
        exact bodyPost_ret (v := .tuple #[.pointer none, .int .i64 10]) (by simp [results, Tryz.results41, go_sem]) rfl (.inr (.inl ⟨HOr.out, HTw.out, rfl, bw_lay HI.out.below _⟩))
end Go.Proofs.YthjfadfebhjhbaaGreat
/- The reference's New in full. -/
namespace Go.Proofs.YthjfadfebhjhbaaGreat
open Go.RowKit Go.Shelf

theorem isA_iff {s : ByteArray} : isA s = true ↔ s = ariesS := by
  rw [← nmB_iff]
  unfold isA nmB
  rw [aries_list]
theorem fndS_iff {ls : List StarV} {s : ByteArray} : decide (0 ≤ fndS ls s) = true ↔ ∃ x ∈ ls, x.s = s := by
  unfold fndS
  rw [idxR_any, List.any_eq_true]
  constructor
  · rintro ⟨x, hx, h⟩; exact ⟨x, hx, nmB_iff.1 h⟩
  · rintro ⟨x, hx, h⟩; exact ⟨x, hx, nmB_iff.2 h⟩
open Classical in
/-- The error number of a book. -/
noncomputable def newE (lp : List PgV) (ls : List StarV) : Int :=
  if 40 < lp.length then 4 else if badP lp = true ∨ catB ls = false then 1 else if ¬ OrdK lp lp.length then 17 else if twB lp ls = true then 10 else 0
theorem newE_full {lp : List PgV} {ls : List StarV} (h : 40 < lp.length) : 4 = newE lp ls := by unfold newE; rw [if_pos h]
theorem newE_arg {lp : List PgV} {ls : List StarV} (h : lp.length ≤ 40) (k : badP lp = true ∨ catB ls = false) : 1 = newE lp ls := by unfold newE; rw [if_neg (by omega), if_pos k]
theorem newE_ord {lp : List PgV} {ls : List StarV} (h : lp.length ≤ 40) (k : badP lp = false) (c : catB ls = true) (o : ¬ OrdK lp lp.length) : 17 = newE lp ls := by unfold newE; rw [if_neg (by omega), if_neg (by rw [k, c]; simp), if_pos o]
theorem newE_tw {lp : List PgV} {ls : List StarV} (h : lp.length ≤ 40) (k : badP lp = false) (c : catB ls = true) (o : OrdK lp lp.length) (t : twB lp ls = true) : 10 = newE lp ls := by unfold newE; rw [if_neg (by omega), if_neg (by rw [k, c]; simp), if_neg (by simpa using o), if_pos t]
theorem newE_ok {lp : List PgV} {ls : List StarV} (h : lp.length ≤ 40) (k : badP lp = false) (c : catB ls = true) (o : OrdK lp lp.length) (t : twB lp ls = false) : 0 = newE lp ls := by unfold newE; rw [if_neg (by omega), if_neg (by rw [k, c]; simp), if_neg (by simpa using o), if_neg (by rw [t]; decide)]
end Go.Proofs.YthjfadfebhjhbaaGreat
/- The law's large and made, in full. -/
namespace Go.Proofs.YthjfadfebhjhbaaGreat
open Go.RowKit Go.Shelf

/-- A track, a page that is large. -/
def lgT (t : TrkV) : Bool := decide ((100 : Int) < (t.s.size : Int)) || decide ((40 : Int) < (t.g.length : Int)) || decide ((40 : Int) < (t.d.length : Int))
theorem tkD_len {P : Nat → Prop} {w : World} {x : TkW} {t : TrkV} (h : TkD P w x t) : x.gn = t.g.length ∧ x.dn = t.d.length := by
  obtain ⟨_, _, e1, _⟩ := h.g.1
  obtain ⟨_, _, e2, _⟩ := h.d.1
  exact ⟨(Value.slice.inj e1).2.1, (Value.slice.inj e2).2.1⟩
theorem TkD.bw' {P : Nat → Prop} {w : World} {x : TkW} {t : TrkV} (h : TkD P w x t) (d : Ext) : TkD P (Go.Proofs.YthjfadfebhjhbaaGreat.bw w d) x t := h.lay [.inr d]
theorem tksD_len {P : Nat → Prop} {w : World} {a : Option Addr} {n c : Nat} {l : List TrkV} (h : TksD P w (.slice a n c) l) : n = l.length := by
  obtain ⟨_, _, e⟩ := h.form
  exact (Value.slice.inj e).2.1
end Go.Proofs.YthjfadfebhjhbaaGreat
/- Contracts of package increments: Linear, Increment, and their references. -/
namespace Go.Proofs.YthjfadfebhjhbaaGreat
open Go.RowKit

theorem mul_bd {x k : Int} (M : Int) (h1 : -M ≤ x) (h2 : x ≤ M) (hk : 0 ≤ k) : -(M * k) ≤ x * k ∧ x * k ≤ M * k := by
  have := Int.mul_le_mul_of_nonneg_right h1 hk
  have := Int.mul_le_mul_of_nonneg_right h2 hk
  rw [Int.neg_mul] at *
  omega

/-- The ends of the interpolation. -/
def linLo (x0 x1 num den : Int) : Int := (x0 * (den - num) + x1 * num) / den
def linHi (y0 y1 num den : Int) : Int := cdiv (y0 * (den - num) + y1 * num) den
structure LinOk (x0 y0 x1 y1 num den : Int) : Prop where
  a0 : -1099511627776 ≤ x0
  a1 : x0 ≤ 1099511627776
  b0 : -1099511627776 ≤ y0
  b1 : y0 ≤ 1099511627776
  c0 : -1099511627776 ≤ x1
  c1 : x1 ≤ 1099511627776
  d0 : -1099511627776 ≤ y1
  d1 : y1 ≤ 1099511627776
  n0 : 0 ≤ num
  n1 : num ≤ den
  m0 : 1 ≤ den
  m1 : den ≤ 4194304
structure LinBd (x0 y0 x1 y1 num den : Int) : Prop where
  a0 : -4611686018427387904 ≤ x0 * (den - num)
  a1 : x0 * (den - num) ≤ 4611686018427387904
  b0 : -4611686018427387904 ≤ y0 * (den - num)
  b1 : y0 * (den - num) ≤ 4611686018427387904
  c0 : -4611686018427387904 ≤ x1 * num
  c1 : x1 * num ≤ 4611686018427387904
  d0 : -4611686018427387904 ≤ y1 * num
  d1 : y1 * num ≤ 4611686018427387904
  s0 : -4611686018427387904 ≤ x0 * (den - num) + x1 * num
  s1 : x0 * (den - num) + x1 * num ≤ 4611686018427387904
  t0 : -4611686018427387904 ≤ y0 * (den - num) + y1 * num
  t1 : y0 * (den - num) + y1 * num ≤ 4611686018427387904
theorem linBd {x0 y0 x1 y1 num den : Int} (h : LinOk x0 y0 x1 y1 num den) : LinBd x0 y0 x1 y1 num den := by
  obtain ⟨a0, a1, b0, b1, c0, c1, d0, d1, n0, n1, m0, m1⟩ := h
  have p := mul_bd (x := x0) (k := den - num) 1099511627776 a0 a1 (by omega)
  have q := mul_bd (x := y0) (k := den - num) 1099511627776 b0 b1 (by omega)
  have r := mul_bd (x := x1) (k := num) 1099511627776 c0 c1 (by omega)
  have s := mul_bd (x := y1) (k := num) 1099511627776 d0 d1 (by omega)
  constructor <;> omega

set_option maxHeartbeats 400000 in
theorem inc_floor (a b : Int) (w : World) (hb : 1 ≤ b) (h1 : -9223372036854775807 ≤ a) (h2 : a ≤ 9223372036854775807) :
    Calls Tryz.prog 296 #[.int .i64 a, .int .i64 b] w fun e w' => e = .returned (.int .i64 (a / b)) ∧ w' = w := by
  go_enter Tryz.func296, Tryz.ntmps296
  go_wp2
  · go_ret
    refine ⟨ret_int ?_, rfl⟩
    rw [IntWalk.wrap64_in]
    · exact floor_neg hb ‹_›
    · rw [floor_neg hb ‹_›]; have := ediv_bd hb 9223372036854775807 (by decide) h1 h2; omega
  · go_ret
    exact ⟨ret_int (floor_pos hb ‹_›), rfl⟩
set_option maxHeartbeats 400000 in
theorem inc_ceil (a b : Int) (w : World) (hb : 1 ≤ b) (h1 : -9223372036854775807 ≤ a) (h2 : a ≤ 9223372036854775807) :
    Calls Tryz.prog 283 #[.int .i64 a, .int .i64 b] w fun e w' => e = .returned (.int .i64 (cdiv a b)) ∧ w' = w := by
  have h3 := ediv_bd (a := -a) hb 9223372036854775807 (by decide) (by omega) (by omega)
  go_enter Tryz.func283, Tryz.ntmps283
  go_wp2_with (go_at_call 296; refine (inc_floor _ _ _ (by omega) (by omega) (by omega)).mono ?_; rintro e w' ⟨rfl, rfl⟩)
  go_ret
  exact ⟨rfl, rfl⟩

set_option maxHeartbeats 1000000 in
theorem inc_linear (x0 y0 x1 y1 num den : Int) (w : World) (h : LinOk x0 y0 x1 y1 num den) :
    Calls Tryz.prog 294 #[(.agg #[.int .i64 (x0), .int .i64 (y0)]), (.agg #[.int .i64 (x1), .int .i64 (y1)]), .int .i64 num, .int .i64 den] w fun e w' => e = .returned (.agg #[.int .i64 (linLo x0 x1 num den), .int .i64 (linHi y0 y1 num den)]) ∧ ∃ d, w' = bw w d := by
  obtain ⟨q1, q2, q3, q4, q5, q6, q7, q8, q9, q10, q11, q12⟩ := linBd h
  obtain ⟨a0, a1, b0, b1, c0, c1, d0, d1, n0, n1, m0, m1⟩ := h
  refine lay_start ?_
  go_enter Tryz.func294, Tryz.ntmps294
  go_wp2_with fail
  refine region_bw_tail 27 (by kernel_rfl) (by kernel_rfl) ?_
  simp only [List.take_succ_cons, List.take_zero, List.drop_succ_cons, List.drop_zero]
  repeat (go_big_quiet_step ((first | (go_at_call 296; exact bqs (inc_floor _ _ _ (by omega) (by omega) (by omega)) ⟨_, rfl⟩) | (go_at_call 283; exact bqs (inc_ceil _ _ _ (by omega) (by omega) (by omega)) ⟨_, rfl⟩))))
  refine wpQuiet_nil ?_
  rintro w' ⟨d, rfl⟩
  go_wp2
  exact bodyPost_ret (v := (.agg #[.int .i64 (linLo x0 x1 num den), .int .i64 (linHi y0 y1 num den)])) (by simp [results, Tryz.results294, go_sem, linLo, linHi]) rfl ⟨rfl, lay_ex _ _⟩

set_option maxHeartbeats 1000000 in
theorem ref14_Linear (x0 y0 x1 y1 num den : Int) (w : World) (h : LinOk x0 y0 x1 y1 num den) :
    Calls Tryz.prog 231 #[(.agg #[.int .i64 (x0), .int .i64 (y0)]), (.agg #[.int .i64 (x1), .int .i64 (y1)]), .int .i64 num, .int .i64 den] w fun e w' => e = .returned (.agg #[.int .i64 (linLo x0 x1 num den), .int .i64 (linHi y0 y1 num den)]) ∧ ∃ d, w' = bw w d := by
  obtain ⟨q1, q2, q3, q4, q5, q6, q7, q8, q9, q10, q11, q12⟩ := linBd h
  obtain ⟨a0, a1, b0, b1, c0, c1, d0, d1, n0, n1, m0, m1⟩ := h
  refine lay_start ?_
  go_enter Tryz.func231, Tryz.ntmps231
  go_wp2_with fail
  refine region_bw_tail 27 (by kernel_rfl) (by kernel_rfl) ?_
  simp only [List.take_succ_cons, List.take_zero, List.drop_succ_cons, List.drop_zero]
  repeat (go_big_quiet_step ((first | (go_at_call 58; exact bqs (ref05_Floor _ _ _ (by omega) (by omega) (by omega)) ⟨_, rfl⟩) | (go_at_call 190; exact bqs (ref05_Ceil _ _ _ (by omega) (by omega) (by omega)) ⟨_, rfl⟩))))
  refine wpQuiet_nil ?_
  rintro w' ⟨d, rfl⟩
  go_wp2
  exact bodyPost_ret (v := (.agg #[.int .i64 (linLo x0 x1 num den), .int .i64 (linHi y0 y1 num den)])) (by simp [results, Tryz.results231, go_sem, linLo, linHi]) rfl ⟨rfl, lay_ex _ _⟩

end Go.Proofs.YthjfadfebhjhbaaGreat
/- The first day of 2000; a page of one track. -/
namespace Go.Proofs.YthjfadfebhjhbaaGreat
open Go.RowKit

set_option maxHeartbeats 400000 in
theorem cal0_right (w : World) : Calls Tryz.prog 167 #[.int .i64 2000, .int .i64 1] w fun e w' => e = .returned (.bool true) ∧ w' = w := by
  go_enter Tryz.func167, Tryz.ntmps167
  go_wp2
  go_ret
  exact ⟨rfl, rfl⟩
set_option maxHeartbeats 400000 in
theorem cal0_before (w : World) : Calls Tryz.prog 169 #[.int .i64 2000] w fun e w' => e = .returned (.int .i64 730119) ∧ w' = w := by
  go_enter Tryz.func169, Tryz.ntmps169
  go_wp2
  go_ret
  exact ⟨rfl, rfl⟩
set_option maxHeartbeats 400000 in
theorem cal0_lengths (w : World) : Calls Tryz.prog 203 #[] w fun e w' => e = .returned (.agg #[.int .i64 31, .int .i64 28, .int .i64 31, .int .i64 30, .int .i64 31, .int .i64 30, .int .i64 31, .int .i64 31, .int .i64 30, .int .i64 31, .int .i64 30, .int .i64 31]) ∧ ∃ d, w' = bw w d := by
  refine lay_start ?_
  go_enter Tryz.func203, Tryz.ntmps203
  go_wp2
  exact bodyPost_ret (v := .agg #[.int .i64 31, .int .i64 28, .int .i64 31, .int .i64 30, .int .i64 31, .int .i64 30, .int .i64 31, .int .i64 31, .int .i64 30, .int .i64 31, .int .i64 30, .int .i64 31]) (by simp [results, Tryz.results203, go_sem]) rfl ⟨rfl, lay_ex _ _⟩
set_option maxHeartbeats 400000 in
theorem cal0_days (w : World) : Calls Tryz.prog 168 #[.int .i64 2000, .int .i64 1] w fun e w' => e = .returned (.int .i64 31) ∧ ∃ d, w' = bw w d := by
  have i0 : ∀ w, (Instr.index 216 (.agg #[.int .i64 31, .int .i64 28, .int .i64 31, .int .i64 30, .int .i64 31, .int .i64 30, .int .i64 31, .int .i64 31, .int .i64 30, .int .i64 31, .int .i64 30, .int .i64 31]) (.int .i64 0)).run Tryz.prog w = .ok (.int .i64 31) w := fun _ => by kernel_rfl
  refine lay_start ?_
  go_enter Tryz.func168, Tryz.ntmps168
  go_wp2_with (go_at_call 203; refine (cal0_lengths _).mono ?_; rintro e w' ⟨rfl, d, rfl⟩)
  go_ret
  exact ⟨rfl, lay_ex _ _⟩
set_option maxHeartbeats 400000 in
theorem cal0_Valid (w : World) : Calls Tryz.prog 130 #[.agg #[.int .i64 2000, .int .i64 1, .int .i64 1]] w fun e w' => e = .returned (.bool true) ∧ ∃ d, w' = bw w d := by
  refine lay_start ?_
  go_enter Tryz.func130, Tryz.ntmps130
  go_wp2_with fail
  refine region_bw (by kernel_rfl) (by kernel_rfl) ?_
  repeat (go_big_quiet_step ((first | (go_at_call 167; exact bqs (cal0_right _) ⟨_, rfl⟩) | (go_at_call 168; exact bq (cal0_days _) (fun d => lay_join _ _ _ d)))))
  refine wpQuiet_nil ?_
  rintro w' ⟨d, rfl⟩
  rw [lay_bw]
  go_wp2
  go_ret
  exact ⟨rfl, lay_ex _ _⟩
set_option maxHeartbeats 400000 in
theorem cal0_dayOfYear (w : World) : Calls Tryz.prog 170 #[.agg #[.int .i64 2000, .int .i64 1, .int .i64 1]] w fun e w' => e = .returned (.int .i64 1) ∧ ∃ d, w' = bw w d := by
  refine lay_start ?_
  go_enter Tryz.func170, Tryz.ntmps170
  go_wp2_with fail
  refine wp_loop_rounds 1 ?_
  rw [rounds_succ]
  go_wp2
  go_ret
  exact ⟨rfl, lay_ex _ _⟩
set_option maxHeartbeats 400000 in
theorem cal0_number (w : World) : Calls Tryz.prog 131 #[.agg #[.int .i64 2000, .int .i64 1, .int .i64 1]] w fun e w' => e = .returned (.int .i64 0) ∧ ∃ d, w' = bw w d := by
  refine lay_start ?_
  go_enter Tryz.func131, Tryz.ntmps131
  go_wp2_with fail
  refine region_bw (by kernel_rfl) (by kernel_rfl) ?_
  repeat (go_big_quiet_step ((first | (go_at_call 169; exact bqs (cal0_before _) ⟨_, rfl⟩) | (go_at_call 170; exact bq (cal0_dayOfYear _) (fun d => lay_join _ _ _ d)))))
  refine wpQuiet_nil ?_
  rintro w' ⟨d, rfl⟩
  rw [lay_bw]
  go_wp2
  go_ret
  exact ⟨rfl, lay_ex _ _⟩
set_option maxHeartbeats 400000 in
theorem cal0_Number (w : World) : Calls Tryz.prog 90 #[.agg #[.int .i64 2000, .int .i64 1, .int .i64 1]] w fun e w' => e = .returned (.tuple #[.int .i64 0, .int .i64 0]) ∧ ∃ d, w' = bw w d := by
  refine lay_start ?_
  go_enter Tryz.func90, Tryz.ntmps90
  go_wp2_with (first | (go_at_call 130; refine (cal0_Valid _).mono ?_; rintro e w' ⟨rfl, d, rfl⟩) | (go_at_call 131; refine (cal0_number _).mono ?_; rintro e w' ⟨rfl, d, rfl⟩))
  go_ret2
  exact ⟨rfl, lay_ex _ _⟩
end Go.Proofs.YthjfadfebhjhbaaGreat
/- A page of one track is valid just if the track is. -/
namespace Go.Proofs.YthjfadfebhjhbaaGreat
open Go.RowKit

theorem map_empty {P : Program} {k : TypeId} {R : Value → Option (DataW Unit × List MemPlace)} {W : World} {b : Nat} (h : W.heap[b]? = some (.map #[] 0)) : W.ownsMap P k R b 0 (.map []) := by
  obtain ⟨es, clock, hb, F, hs, hD⟩ := World.ownsMap_made W P k R
  have e : (W.alloc (.map #[] 0)).heap[W.heap.size]? = some (.map #[] 0) := by show (W.heap.push _)[_]? = _; simp
  rw [e] at hb
  simp only [Option.some.injEq, Obj.map.injEq] at hb
  obtain ⟨rfl, rfl⟩ := hb
  exact ⟨#[], 0, h, F, hs, hD⟩
theorem zero_bool0 (w : World) : (zeroValue 4).run Tryz.prog w = .ok (.bool false) w := by kernel_rfl
theorem map_type : Tryz.prog.underlying 170 = some (.map 9 4) := by kernel_rfl
set_option maxRecDepth 100000 in
theorem bool_of {v : Value} {x : Bool} {ps : List MemPlace} (h : plainElem (H := Unit) Tryz.prog 4 v = some (.lit (.bool x), ps)) : v = .bool x := by
  unfold plainElem at h
  rw [Tryz.underlying4] at h
  cases v <;> simp at h
  rw [h.1]
theorem look_none {W : World} {b : Nat} (h : W.heap[b]? = some (.map #[] 0)) {s : ByteArray} (hs : s.size ≤ maxLen) : (Instr.lookup 170 (.map (some b)) (.string s) false).run Tryz.prog W = .ok (.bool false) W := by
  obtain ⟨v, ps, hrun, hv⟩ := (map_empty (P := Tryz.prog) (k := 9) (R := plainElem Tryz.prog 4) h).lookup (Maps.string_keyed Tryz.underlying9) map_type (zero_bool0 W) (plainElem_bool Tryz.underlying4 false) (WideMaps.keyOf_string_mk (P := Tryz.prog) Tryz.underlying9 hs)
  have e : DataW.atKey (H := Unit) (.map []) (.string s.data.toList) (.lit (.bool false)) = .lit (.bool false) := rfl
  rw [e] at hv
  rw [hrun, bool_of hv]
theorem put_first {W : World} {b : Nat} (h : W.heap[b]? = some (.map #[] 0)) {s : ByteArray} (hs : s.size ≤ maxLen) {w0 : World} (hb : Below w0.heap.size w0 W) (hB : w0.heap.size ≤ b) :
    ∃ d, (Instr.mapUpdate 170 (.map (some b)) (.string s) (.bool true)).run Tryz.prog W = .ok () (bw w0 d) := by
  obtain ⟨w', hrun, _, hg⟩ := (map_empty (P := Tryz.prog) (k := 9) (R := plainElem Tryz.prog 4) h).update (Maps.string_keyed Tryz.underlying9) map_type (by decide) (WideMaps.keyOf_string_mk (P := Tryz.prog) Tryz.underlying9 hs) (plainElem_bool Tryz.underlying4 true)
  obtain ⟨d, hd⟩ := bw_of (hb.grown hg hb.size (fun k e => by cases e; exact hB))
  exact ⟨d, by rw [hrun, hd]⟩
set_option maxHeartbeats 2000000 in
set_option maxRecDepth 100000 in
theorem page_Valid_one (v : Value) (t : TrkV) (b : Nat) (w : World) (hv : Trk w v t) (hb : b < w.heap.size) (hc : ∀ c, v = .agg c → ∀ i, i < 6 → w.cell? ⟨b, i, none⟩ = c[i]?) :
    Calls Tryz.prog 86 #[.agg #[.int .i64 2000, .int .i64 1, .int .i64 1, .slice (some ⟨b, 0, none⟩) 1 1]] w fun e w' => e = .returned (.bool (trkB t)) ∧ ∃ d, w' = bw w d := by
  have HV := Lib.hid hv
  obtain ⟨vg, vd, rfl, hs, hg, hd, hp, hq, hr⟩ := hv
  obtain ⟨s, gs, ds, p, q, r⟩ := t
  simp only at hs hg hd hp hq hr HV ⊢
  obtain ⟨ag, cg, rfl, g1, -, -⟩ := hg
  obtain ⟨ad, cd, rfl, d1, -, -⟩ := hd
  have c0 := hc _ rfl 0 (by decide)
  have c1 := hc _ rfl 1 (by decide)
  have c2 := hc _ rfl 2 (by decide)
  have c3 := hc _ rfl 3 (by decide)
  have c4 := hc _ rfl 4 (by decide)
  have c5 := hc _ rfl 5 (by decide)
  simp at c0 c1 c2 c3 c4 c5
  obtain ⟨T, hT⟩ : ∃ T, T = trkB ⟨s, gs, ds, p, q, r⟩ := ⟨_, rfl⟩
  have VT := fun L => page_validTrack _ _ (lay w L) (HV.out.lay L)
  rw [← hT] at VT
  have HVT := Lib.hid VT
  rw [← hT]
  clear VT hT
  have hmm := @run_makeMap Tryz.prog
  clear hc hp hq hr
  refine lay_start ?_
  go_enter Tryz.func86, Tryz.ntmps86
  go_wp2_with (go_at_call 90; refine (cal0_Number _).mono ?_; rintro e w' ⟨rfl, d, rfl⟩)
  refine wp_loop_rounds 2 ?_
  rw [rounds_succ]
  go_wp2_with fail
  refine (HVT.out _).mono ?_
  rintro e w' ⟨rfl, d2, rfl⟩
  have hlk : (Instr.lookup 170 (.map (some (posn w [d.n, 1]))) (.string s) false).run Tryz.prog (lay w [.inr d2, .inl (.cells #[.string s, .slice ag gs.length cg, .slice ad ds.length cd, .int .i64 p, .int .i64 q, .int .i64 r] 126), .inl (.map #[] 0), .inr d, .inl (.cells #[.int .i64 2000, .int .i64 1, .int .i64 1, .slice (some ⟨b, 0, none⟩) 1 1] 138)]) = .ok (.bool false) _ := look_none (by exact lay_get w _ 2 _ rfl) hs
  obtain ⟨e2, hup⟩ : ∃ e2, (Instr.mapUpdate 170 (.map (some (posn w [d.n, 1]))) (.string s) (.bool true)).run Tryz.prog (lay w [.inr d2, .inl (.cells #[.string s, .slice ag gs.length cg, .slice ad ds.length cd, .int .i64 p, .int .i64 q, .int .i64 r] 126), .inl (.map #[] 0), .inr d, .inl (.cells #[.int .i64 2000, .int .i64 1, .int .i64 1, .slice (some ⟨b, 0, none⟩) 1 1] 138)]) = .ok () (lay w [.inr e2]) :=
    put_first (by exact lay_get w _ 2 _ rfl) hs (lay_extends w _) (Nat.le_add_right _ _)
  cases T
  · go_wp2
    go_ret
    exact ⟨rfl, lay_ex _ _⟩
  · go_wp2_with fail
    rw [rounds_succ]
    go_wp2
    go_ret
    exact ⟨rfl, lay_ex _ _⟩
set_option maxHeartbeats 1000000 in
theorem inc_valid (v : Value) (t : TrkV) (w : World) (hv : Trk w v t) :
    Calls Tryz.prog 260 #[v] w fun e w' => e = .returned (.bool (trkB t)) ∧ ∃ d, w' = bw w d := by
  have HP := Lib.hid (fun b L hb hc => page_Valid_one v t b (lay w L) (hv.lay L) hb hc)
  obtain ⟨vg, vd, rfl, -⟩ := hv
  refine lay_start ?_
  go_enter Tryz.func260, Tryz.ntmps260
  go_wp2_with (go_at_call 86; refine (HP.out _ _ (by rw [lay_size]; unfold posn shp; simp [shp]) (by intro c hc i hi; injection hc with hc; subst hc; rw [lay_cell _ _ _ _ (by simp) rfl rfl]; rfl)).mono ?_; rintro e w' ⟨rfl, d, rfl⟩)
  go_ret
  exact ⟨rfl, lay_ex _ _⟩
end Go.Proofs.YthjfadfebhjhbaaGreat

/- Contracts and plain laws, several texts in one: Nwc; Nwd; OpG; Opn; Opp; Mde -/
import Derived.Test.YtnnmfdeeicpdlaaGreatProg
import Derived.WalkKit
import Derived.WalkSpells
import Derived.WalkLawsBesides
import Derived.Lib.Hide
import Derived.BigQuiet
import Derived.Deep.Slices
import Derived.Deep.Fields
import Derived.ChangeSame
import Derived.WideShapes
import Derived.ChangeShapes
import Derived.Lib.SmallJoins
import Derived.Test.YtnnmfdeeicpdlaaGreatSAA
import Derived.Test.YtnnmfdeeicpdlaaGreatSAI
import Derived.Test.YtnnmfdeeicpdlaaGreatSAJ
import Derived.Test.YtnnmfdeeicpdlaaGreatSAQ
/- almanac.New in full. -/
namespace Go.Proofs.YtnnmfdeeicpdlaaGreat
open Go.RowKit Go.Shelf

noncomputable def twB (lp : List PgV) (ls : List StarV) : Bool := Lib.containsS (tkL lp) ariesS || ls.any (fun x => twS (tkL lp) x.s)
def NewAll (w : World) (lp : List PgV) (ls : List StarV) (e : Ending) (w' : World) : Prop :=
  (OrdK lp lp.length ∧ twB lp ls = false ∧ NewPost w lp ls e w') ∨
  (OrdK lp lp.length ∧ twB lp ls = true ∧ e = .returned (.tuple #[.pointer none, .int .i64 10]) ∧ ∃ d, w' = bw w d) ∨
  (¬ OrdK lp lp.length ∧ e = .returned (.tuple #[.pointer none, .int .i64 17]) ∧ ∃ d, w' = bw w d)
theorem bad_all {lp : List PgV} (h : badP lp = false) : ∀ p ∈ lp, PgOk p := fun p hp => by
  unfold badP at h
  rw [List.any_eq_false] at h
  have := h p hp
  simpa [pgB_iff] using this
theorem bw_lay {w W : World} (h : Below w.heap.size w W) (L : List (Obj ⊕ Ext)) : ∃ d, lay W L = bw w d := by
  obtain ⟨d, rfl⟩ := bw_of h
  obtain ⟨e, he⟩ := lay_ex (bw w d) L
  exact ⟨_, he.trans (bw_bw _ _ _)⟩
theorem NwI.book {w : World} {bk H : Nat} {vp vs vd : Value} {lp : List PgV} {ls : List StarV} {k : Nat} {W : World} {d : Ext} (h : NwI w bk H vp vs vd lp ls k W d) (hk : lp.length ≤ k) (A : List (Obj ⊕ Ext)) {z : Ext} (hz : lay W (A ++ [.inr d]) = bw w z) : BkA w bk lp ls (bw w z) := by
  rw [← hz]
  have hr := h.row
  rw [List.take_of_length_le (by unfold dysL; rw [List.length_map]; exact hk)] at hr
  have hS : w.heap.size ≤ H := by rw [← h.size]; exact h.below.size
  exact ⟨h.bk0, vd, vp, vs, (show Bk W bk vd vp vs from ⟨by rw [h.size]; exact h.bk1, h.c0, h.c1, h.c2⟩).lay _, sl_on (A := A) (B := [.inr d]) hr.sl, (ow_blk hr).mono fun b hb => ⟨Nat.le_trans hS hb, by have := h.bk1; omega⟩, h.pgs.lay _, h.sts.lay _, h.stb⟩
theorem ow_form' {w : World} {base : Nat} {v : Value} {l : List Int} (h : Ow w base v l) : ∃ a n c, v = .slice a n c := by
  obtain ⟨a, c, e⟩ := h.form
  exact ⟨a, _, c, e⟩
set_option maxHeartbeats 4000000 in
set_option maxRecDepth 100000 in
theorem alm_New_main {P : Nat → Prop} (vp vs : Value) (lp : List PgV) (ls : List StarV) (w : World) (hp : PgsD P w vp lp) (hP : ∀ b, P b → b < w.heap.size) (hv : SlG stR w vs ls) (h : lp.length ≤ 40) (hb : badP lp = false) (hc : catB ls = true) :
    Calls Tryz.prog 12 #[vp, vs] w (NewAll w lp ls) := by
  have hok := bad_all hb
  have hlen := (catB_iff.1 hc).len
  have HOk := Lib.hid hok
  have HC := Lib.hid (fun L => cat_Valid vs ls (lay w L) (hv.lay L))
  rw [hc] at HC
  have HB := Lib.hid (fun L => pgs_bad vp lp (lay w L) (hp.lay L))
  change Hid (∀ L, Calls _ _ _ _ fun e w' => e = .returned (.bool (badP lp)) ∧ _) at HB
  rw [hb] at HB
  have HCp := Lib.hid (fun L => alm_copied vp lp (lay w L) (hp.lay L) (fun b hb => Nat.lt_of_lt_of_le (hP b hb) (lay_extends w L).size) (by omega) (fun p hpm => by have := (hok p hpm).len; omega) (fun p hpm t ht => by
    obtain ⟨i, hi, rfl⟩ := List.getElem_of_mem ht
    have := (hok p hpm).ok i p.ts[i] (List.getElem?_eq_getElem hi)
    have h1 := (trkB_iff.1 this.1).lg
    have h2 := (trkB_iff.1 this.1).ld
    omega))
  have HCl := Lib.hid (fun L => cln_Star vs ls (lay w L) (hv.lay L) (by omega))
  have HPg := Lib.hid hp
  have HVs := Lib.hid hv
  obtain ⟨a, c, rfl⟩ := pgs_form hp
  obtain ⟨q, hq⟩ : ∃ q, lp.length = q := ⟨_, rfl⟩
  have HQ := Lib.hid hq
  rw [hq] at h HB HCp HPg ⊢
  have x1 : ¬ (40 : Int) < (q : Int) := by omega
  clear hp hq hv hok hlen hb hc
  refine lay_start ?_
  go_enter Tryz.func12, Tryz.ntmps12
  go_wp2_with (first | (go_at_call 63; refine (HB.out _).mono ?_; rintro e w' ⟨rfl, d1, rfl⟩) | (go_at_call 66; refine (HC.out _).mono ?_; rintro e w' ⟨rfl, d2, rfl⟩))
  refine (HCp.out _).mono ?_
  rintro e w' ⟨A, cA, d3, rfl, rfl, hA⟩
  rw [lay_bw] at hA ⊢
  have HA := Lib.hid hA
  clear hA
  go_wp2_with fail
  refine (HCl.out _).mono ?_
  rintro e w' ⟨v', d4, rfl, rfl, h4⟩
  rw [lay_bw] at h4 ⊢
  obtain ⟨va, vc, rfl⟩ := h4.form
  have H4 := Lib.hid h4
  clear h4
  rw [HQ.out] at HA ⊢
  go_wp2_with fail
  obtain ⟨bk, hbk⟩ : ∃ bk, posn w [d4.n, d3.n, d2.n, d1.n] = bk := ⟨_, rfl⟩
  obtain ⟨W0, hW0⟩ : ∃ W0, lay w [.inl (.cells #[.slice none 0 0, .slice A q cA, .slice va ls.length vc] 114 (0, 0)), .inr d4, .inr d3, .inr d2, .inr d1] = W0 := ⟨_, rfl⟩
  have hI : NwI w bk W0.heap.size (.slice A q cA) (.slice va ls.length vc) (.slice none 0 0) lp ls 0 W0 (noExt W0) := by
    rw [← hbk, ← hW0]
    exact nwI_new w [.inr d4] [.inr d3, .inr d2, .inr d1] _ _ _ lp ls (HA.out.mono fun b hb => Nat.le_trans (lay_extends w [.inr d2, .inr d1]).size hb) (H4.out.le (lay_extends w [.inr d3, .inr d2, .inr d1]).size)
  have HI := Lib.hid hI
  rw [hbk, hW0]
  obtain ⟨H, hH⟩ : ∃ H, W0.heap.size = H := ⟨_, rfl⟩
  rw [hH] at HI
  clear hI hbk hW0 HA H4 hH
  go_loopw [30] (fun v30 wr => ∃ (i : Nat) (d : Ext) (W : World) (vd : Value), i ≤ q ∧ v30 = .int .i64 (i : Int) ∧ wr = lay W [.inr d] ∧ NwI w bk H (.slice A q cA) (.slice va ls.length vc) vd lp ls i W d ∧ OrdK lp i) (fun v30 _ => q - (intOf v30).toNat)
  case atStart => exact ⟨0, noExt W0, W0, _, Nat.zero_le _, rfl, (bw_noExt W0).symm, HI.out, fun i p q hi => absurd hi (by omega)⟩
  case round =>
    clear HI
    obtain ⟨i, d, W, vd, hi, rfl, rfl, hI, hO⟩ := hrel
    have HI := Lib.hid hI
    have HO := Lib.hid hO
    clear hI hO
    by_cases hlt : i < q
    · obtain ⟨p, hpp⟩ : ∃ p, lp[i]? = some p := ⟨_, List.getElem?_eq_getElem (by rw [HQ.out]; exact hlt)⟩
      have hpW : PgsD P W (.slice a q c) lp := HPg.out.keep HI.out.below.size (fun b _ hb => HI.out.below.block b hb)
      obtain ⟨b, o, cap, hv1, hcc, hbb, -, hr⟩ := hpW.open (by rw [HQ.out]; omega)
      rw [HQ.out] at hv1 hcc
      cases hv1
      obtain ⟨x, hw, hD, c0, c1, c2, c3⟩ := hr i p hpp
      have hok := HOk.out p (List.mem_of_getElem? hpp)
      have HNum := Lib.hid (fun L => cal_Number x.y x.m x.d (lay W L))
      have hdx := hok.dt
      rw [← hD.y, ← hD.m, ← hD.d] at hdx
      rw [hdx, if_pos rfl, if_pos rfl] at HNum
      have x2 : (i : Int) < (q : Int) := by omega
      have x3 : (0 : Int) ≤ (i : Int) := by omega
      clear hpW hr
      go_wp2_with fail
      refine (HNum.out _).mono ?_
      rintro e w' ⟨rfl, d5, rfl⟩
      obtain ⟨N0, hN0⟩ : ∃ N0, numI x.y x.m x.d = N0 := ⟨_, rfl⟩
      have HN0 := Lib.hid hN0
      rw [lay_bw, hN0]
      clear hN0 hdx
      have k0 := HI.out.c0
      have kz := HI.out.fz
      have kb : bk < W.heap.size := by rw [HI.out.size]; exact HI.out.bk1
      have HR0 : Hid (Ow (lay W [.inr d]) W.heap.size vd ((dysL lp).take i)) := Lib.hid (by rw [HI.out.size]; exact HI.out.row)
      have HRl : Hid (((dysL lp).take i).length ≤ 1000000000) := Lib.hid (by rw [List.length_take]; omega)
      have HNw : Hid ((Lit.int .i64 N0).wf = true) := Lib.hid (by
        have h1 := hok.lo
        have h2 := hok.hi
        rw [← hD.y, ← hD.m, ← hD.d, HN0.out] at h1 h2
        simp [Lit.wf, IntKind.min, IntKind.max, IntKind.bits, IntKind.signed]
        omega)
      have HTk : Hid ((dysL lp).take i ++ [N0] = (dysL lp).take (i + 1)) := Lib.hid (by
        rw [List.take_add_one]
        have : (dysL lp)[i]? = some N0 := by unfold dysL; rw [List.getElem?_map, hpp, ← HN0.out, hD.y, hD.m, hD.d]; rfl
        rw [this]; rfl)
      by_cases hi0 : i = 0
      · subst hi0
        have x4 : ¬ (0 : Int) < ((0 : Nat) : Int) := by decide
        go_wp2_with (at_builtin; refine push_int rfl _ _ rfl (lay W []) _ N0 3 (posn W [d5.n, 1, d.n]) vd _ (lay_below (A := [_, _, _, _]) (B := [])) (ow_on (A := [_, _, _]) HR0.out) (lay_get W _ 0 _ rfl) rfl rfl HRl.out HNw.out ?_; intro vd' d' hv'; obtain ⟨ga, gn, gc, eg⟩ := ow_form' hv'; subst eg; have HV' := Lib.hid hv'; clear hv')
        go_roundw
        case rel => exact ⟨1, d', W.setCell ⟨bk, 0, none⟩ (.slice ga gn gc), _, by omega, rfl, bw_setCell W d' bk 0 _ kb, HI.out.step (by have h := HV'.out; rw [HTk.out] at h; rw [← HI.out.size]; exact h), fun j p q hj => absurd hj (by omega)⟩
        case measure => simp [intOf]; omega
      · obtain ⟨j, rfl⟩ : ∃ j, i = j + 1 := ⟨i - 1, by omega⟩
        obtain ⟨p0, hp0⟩ : ∃ p0, lp[j]? = some p0 := ⟨_, List.getElem?_eq_getElem (by rw [HQ.out]; omega)⟩
        have hlr : ((dysL lp).take (j + 1)).length = j + 1 := by rw [List.length_take]; unfold dysL; rw [List.length_map, HQ.out]; omega
        obtain ⟨g, cap', hvd, hg1, hg2, hg3, hg4⟩ := HR0.out.form1 (by omega)
        rw [hlr] at hvd hg3
        obtain ⟨N1, hN1⟩ : ∃ N1, numI p0.y p0.m p0.d = N1 := ⟨_, rfl⟩
        have hnth : nth ((dysL lp).take (j + 1)) j = N1 := by
          have : ((dysL lp).take (j + 1))[j]? = some N1 := by
            rw [List.getElem?_take_of_lt (by omega)]
            unfold dysL; rw [List.getElem?_map, hp0, ← hN1]; rfl
          unfold nth
          rw [List.getD, this]; rfl
        have e1 : ∀ A, (lay W (A ++ [.inr d])).cell? ⟨g, j, none⟩ = some (.int .i64 N1) := fun A => by
          have h := (ow_on (A := A) HR0.out)
          rw [hvd] at h
          have := h.cell (i := j) (by omega)
          rw [hnth] at this
          exact this
        have e2 := e1 [.inr d5, .inl (.cells #[.int .i64 x.y, .int .i64 x.m, .int .i64 x.d, .slice x.ta x.tn x.tc] 108 (0, 0))]
        change (lay W [.inr d5, .inl (.cells #[.int .i64 x.y, .int .i64 x.m, .int .i64 x.d, .slice x.ta x.tn x.tc] 108 (0, 0)), .inr d]).cell? ⟨g, j, none⟩ = some (.int .i64 N1) at e2
        have HE1 := Lib.hid e1
        have HN1 := Lib.hid hN1
        have HP0 := Lib.hid hp0
        subst hvd
        clear e1 hN1 hp0 hnth hlr
        have x4 : (0 : Int) < (j : Int) + 1 := by omega
        have x5 : IntKind.i64.wrap ((j : Int) + 1 - 1) = (j : Int) := by rw [IntWalk.i64_in _ (by omega)]; omega
        have x6 : (0 : Int) ≤ (j : Int) := by omega
        have x7 : (j : Int) < (j : Int) + 1 := by omega
        have x8 : ((j + 1 : Nat) : Int) = (j : Int) + 1 := by omega
        rw [x8]
        rw [x8] at x2 x3
        by_cases hle : N0 ≤ N1
        · have HNo : Hid (¬ OrdK lp lp.length) := Lib.hid (fun h => by
            have := h j p0 p (by rw [HQ.out]; omega) HP0.out hpp
            rw [HN1.out, ← hD.y, ← hD.m, ← hD.d, HN0.out] at this
            omega)
          go_wp2_with fail
          exact bodyPost_ret (v := .tuple #[.pointer none, .int .i64 17]) (by simp [results, Tryz.results12, go_sem]) rfl (.inr (.inr ⟨HNo.out, rfl, bw_lay HI.out.below _⟩))
        · have hgt : N1 < N0 := by omega
          go_wp2_with (at_builtin; refine push_int rfl _ _ rfl (lay W []) _ N0 3 (posn W [d5.n, 1, d.n]) _ _ (lay_below (A := [_, _, _, _]) (B := [])) (ow_on (A := [_, _, _]) HR0.out) (lay_get W _ 0 _ rfl) rfl rfl HRl.out HNw.out ?_; intro vd' d' hv'; obtain ⟨ga, gn, gc, eg⟩ := ow_form' hv'; subst eg; have HV' := Lib.hid hv'; clear hv')
          go_roundw
          case rel => exact ⟨j + 2, d', W.setCell ⟨bk, 0, none⟩ (.slice ga gn gc), _, by omega, by go_num, bw_setCell W d' bk 0 _ kb, HI.out.step (by have h := HV'.out; rw [HTk.out] at h; rw [← HI.out.size]; exact h), fun u p' q' hu h1 h2 => by
            by_cases huj : u = j
            · subst huj
              rw [HP0.out] at h1; cases h1
              rw [hpp] at h2; cases h2
              rw [HN1.out, ← hD.y, ← hD.m, ← hD.d, HN0.out]; exact hgt
            · exact HO.out u p' q' (by omega) h1 h2⟩
          case measure => simp [intOf]; omega
    · have hiq : i = q := by omega
      have x2 : ¬ (i : Int) < (q : Int) := by omega
      have HOr : Hid (OrdK lp lp.length) := Lib.hid (by rw [HQ.out, ← hiq]; exact HO.out)
      have hF : Few lp := ⟨by rw [HQ.out]; omega, fun p hp => by have := (HOk.out p hp).len; omega⟩
      have hB : Bk W bk vd (.slice A q cA) (.slice va ls.length vc) := ⟨by rw [HI.out.size]; exact HI.out.bk1, HI.out.c0, HI.out.c1, HI.out.c2⟩
      have HT := Lib.hid (alm_tracked bk vd (.slice A q cA) (.slice va ls.length vc) lp (lay W [.inr d]) (hB.lay _) (HI.out.pgs.lay _) hF)
      clear hF hB
      go_wp2_with fail
      refine HT.out.mono ?_
      rintro e w' ⟨ta, tc, d6, rfl, rfl, hTn, hTs⟩
      rw [lay_bw] at hTs ⊢
      have HTs := Lib.hid hTs
      clear hTs hTn
      go_wp2_with fail
      have HCn := Lib.hid (str_Contains (.slice ta (tkL lp).length tc) (tkL lp) ariesS (lay W [.inl (.cells #[.slice ta (tkL lp).length tc] 116 (0, 0)), .inr d6, .inr d]) (slG_on (A := [_]) HTs.out))
      have eI : ∀ args w, (callFunc 73 args).run Tryz.prog w = .ok (.enter 73 args) w := enters_of Tryz.func73 (by kernel_rfl) rfl
      have HSt := Lib.hid (st_ContainsFunc 73 [.pointer (some ⟨posn W [d6.n, d.n], 0, none⟩)] (fun x => twS (tkL lp) x.s) vs ls (lay W [.inl (.cells #[.slice ta (tkL lp).length tc] 116 (0, 0)), .inr d6, .inr d]) ((HVs.out.ext HI.out.below).lay _) eI (fun x _ e =>
        (alm_New2 x (tkL lp) (.slice ta (tkL lp).length tc) (posn W [d6.n, d.n]) (lay W [.inr e, .inl (.cells #[.slice ta (tkL lp).length tc] 116 (0, 0)), .inr d6, .inr d]) (by simp only [lay_size, shp, posn, List.sum_cons, List.sum_nil]; omega) (by simp [go_sem]) (slG_on (A := [_, _]) HTs.out)).mono fun e w' ⟨h1, d2, h2⟩ => ⟨h1, _, h2.trans (bw_bw _ _ _)⟩))
      have HTw : Hid (twB lp ls = (Lib.containsS (tkL lp) ariesS || ls.any (fun x => twS (tkL lp) x.s))) := Lib.hid rfl
      clear eI
      generalize Lib.containsS (tkL lp) ariesS = r1 at *
      generalize ls.any (fun x => twS (tkL lp) x.s) = r2 at *
      go_wp2_with fail
      refine HCn.out.mono ?_
      rintro e w' ⟨rfl, rfl⟩
      cases r1
      · go_wp2_with fail
        refine HSt.out.mono ?_
        rintro e w' ⟨rfl, d7, rfl⟩
        cases r2
        · go_wp2_with fail
          obtain ⟨z, hz⟩ := bw_lay HI.out.below [.inr d7, .inl (.cells #[.slice ta (tkL lp).length tc] 116 (0, 0)), .inr d6, .inr d]
          exact bodyPost_ret (v := .tuple #[.pointer (some ⟨bk, 0, none⟩), .int .i64 0]) (by simp [results, Tryz.results12, go_sem]) rfl (.inl ⟨HOr.out, HTw.out, bk, z, rfl, hz, HI.out.book (by rw [HQ.out]; omega) [.inr d7, .inl (.cells #[.slice ta (tkL lp).length tc] 116 (0, 0)), .inr d6] hz⟩)
        · go_wp2_with fail
          exact bodyPost_ret (v := .tuple #[.pointer none, .int .i64 10]) (by simp [results, Tryz.results12, go_sem]) rfl (.inr (.inl ⟨HOr.out, HTw.out, rfl, bw_lay HI.out.below _⟩))
      · go_wp2_with fail
        exact bodyPost_ret (v := .tuple #[.pointer none, .int .i64 10]) (by simp [results, Tryz.results12, go_sem]) rfl (.inr (.inl ⟨HOr.out, HTw.out, rfl, bw_lay HI.out.below _⟩))
end Go.Proofs.YtnnmfdeeicpdlaaGreat
/- The reference's New in full. -/
namespace Go.Proofs.YtnnmfdeeicpdlaaGreat
open Go.RowKit Go.Shelf

theorem isA_iff {s : ByteArray} : isA s = true ↔ s = ariesS := by
  rw [← nmB_iff]
  unfold isA nmB
  rw [aries_list]
theorem fndS_iff {ls : List StarV} {s : ByteArray} : decide (0 ≤ fndS ls s) = true ↔ ∃ x ∈ ls, x.s = s := by
  unfold fndS
  rw [idxR_any, List.any_eq_true]
  constructor
  · rintro ⟨x, hx, h⟩; exact ⟨x, hx, nmB_iff.1 h⟩
  · rintro ⟨x, hx, h⟩; exact ⟨x, hx, nmB_iff.2 h⟩
open Classical in
noncomputable def newE (lp : List PgV) (ls : List StarV) : Int :=
  if 40 < lp.length then 4 else if badP lp = true ∨ catB ls = false then 1 else if ¬ OrdK lp lp.length then 17 else if twB lp ls = true then 10 else 0
theorem newE_full {lp : List PgV} {ls : List StarV} (h : 40 < lp.length) : 4 = newE lp ls := by unfold newE; rw [if_pos h]
theorem newE_arg {lp : List PgV} {ls : List StarV} (h : lp.length ≤ 40) (k : badP lp = true ∨ catB ls = false) : 1 = newE lp ls := by unfold newE; rw [if_neg (by omega), if_pos k]
theorem newE_ord {lp : List PgV} {ls : List StarV} (h : lp.length ≤ 40) (k : badP lp = false) (c : catB ls = true) (o : ¬ OrdK lp lp.length) : 17 = newE lp ls := by unfold newE; rw [if_neg (by omega), if_neg (by rw [k, c]; simp), if_pos o]
theorem newE_tw {lp : List PgV} {ls : List StarV} (h : lp.length ≤ 40) (k : badP lp = false) (c : catB ls = true) (o : OrdK lp lp.length) (t : twB lp ls = true) : 10 = newE lp ls := by unfold newE; rw [if_neg (by omega), if_neg (by rw [k, c]; simp), if_neg (by simpa using o), if_pos t]
theorem newE_ok {lp : List PgV} {ls : List StarV} (h : lp.length ≤ 40) (k : badP lp = false) (c : catB ls = true) (o : OrdK lp lp.length) (t : twB lp ls = false) : 0 = newE lp ls := by unfold newE; rw [if_neg (by omega), if_neg (by rw [k, c]; simp), if_neg (by simpa using o), if_neg (by rw [t]; decide)]
end Go.Proofs.YtnnmfdeeicpdlaaGreat
/- A slice of records off an argument: whatever the record is. -/
namespace Go.Proofs.YtnnmfdeeicpdlaaGreat
open Go.RowKit

section
variable {H : Type} {enc : TypeId × Value → H} {α : Type} {R : RecT α} {P : Program}
end
end Go.Proofs.YtnnmfdeeicpdlaaGreat
/- Opening rows of records off an argument: a slice reads as a list of records, each with what its cells say. -/
namespace Go.Proofs.YtnnmfdeeicpdlaaGreat
open Go.RowKit

section
variable {H : Type} {enc : TypeId × Value → H} {P : Program}

open Go.ChangeShapes Go.WideShapes Go.Deep in
theorem st_elem {w : World} {t ts ti : TypeId} {f0 f1 f2 f3 : Field} (hs : P.underlying t = some (.struct #[f0, f1, f2, f3])) (hone : oneCellFields P #[f0, f1, f2, f3] = true)
    (ht : f0.type = ts ∧ f1.type = ti ∧ f2.type = ti ∧ f3.type = ti) (hS : P.underlying ts = some .string) (hI : P.underlying ti = some (.int .i64))
    (n : Nat) (cs : List Value) (y : DataW H × List MemPlace) (hf : DataW.trod enc P w 0 (fun _ => true) true n t cs = some y) (hl : cs.length = 4) : ∃ z, cs = stR.enc z ∧ stR.wf z ∧ True := by
  match cs, hl with
  | [c0, c1, c2, c3], _ =>
    obtain ⟨xs, m, _, hx, _, hlen, hg⟩ := DataW.trod_struct hs hf
    obtain ⟨o0, k0⟩ := hone_of hone 0 f0 rfl
    obtain ⟨o1, k1⟩ := hone_of hone 1 f1 rfl
    obtain ⟨o2, k2⟩ := hone_of hone 2 f2 rfl
    obtain ⟨o3, k3⟩ := hone_of hone 3 f3 rfl
    match xs, hlen with
    | [y0, y1, y2, y3], _ =>
      have e0 : DataW.trod enc P w 0 (fun _ => true) true m f0.type [c0] = some y0 := by simpa [Value.cells, o0, k0] using hg 0 f0 rfl
      have e1 : DataW.trod enc P w 0 (fun _ => true) true m f1.type [c1] = some y1 := by simpa [Value.cells, o1, k1] using hg 1 f1 rfl
      have e2 : DataW.trod enc P w 0 (fun _ => true) true m f2.type [c2] = some y2 := by simpa [Value.cells, o2, k2] using hg 2 f2 rfl
      have e3 : DataW.trod enc P w 0 (fun _ => true) true m f3.type [c3] = some y3 := by simpa [Value.cells, o3, k3] using hg 3 f3 rfl
      obtain ⟨t0, t1, t2, t3⟩ := ht
      rw [t0] at e0; rw [t1] at e1; rw [t2] at e2; rw [t3] at e3
      obtain ⟨s, q0, _, ws⟩ := DataW.trod_string hS e0
      obtain ⟨x1, q1, _, w1⟩ := DataW.trod_int hI e1
      obtain ⟨x2, q2, _, w2⟩ := DataW.trod_int hI e2
      obtain ⟨x3, q3, _, w3⟩ := DataW.trod_int hI e3
      simp only [List.cons.injEq, and_true] at q0 q1 q2 q3
      subst q0 q1 q2 q3
      exact ⟨⟨s, x1, x2, x3⟩, rfl, ⟨ws, w1, w2, w3⟩, trivial⟩
end
end Go.Proofs.YtnnmfdeeicpdlaaGreat
/- Opening pages off an argument: tracks, pages, rows of both, each with what lies in memory. -/
namespace Go.Proofs.YtnnmfdeeicpdlaaGreat
open Go.RowKit

section
variable {H : Type} {enc : TypeId × Value → H} {P : Program}
end
end Go.Proofs.YtnnmfdeeicpdlaaGreat
/- The law's large and made, in full. -/
namespace Go.Proofs.YtnnmfdeeicpdlaaGreat
open Go.RowKit Go.Shelf

end Go.Proofs.YtnnmfdeeicpdlaaGreat

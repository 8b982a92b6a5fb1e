/- Contracts and plain laws, several texts in one: Nwc; Nwd; Mde; Inc1 -/
import Derived.Test.YtlkphcjlgbimkaaGreatProg
import Derived.WalkKit
import Derived.WalkSpells
import Derived.WalkLawsBesides
import Derived.Lib.Hide
import Derived.BigQuiet
import Derived.Test.YtlkphcjlgbimkaaGreatBAA
import Derived.Test.YtlkphcjlgbimkaaGreatBAB
import Derived.Test.YtlkphcjlgbimkaaGreatBAE
import Derived.Test.YtlkphcjlgbimkaaGreatBAP
/- almanac.New in full. -/
namespace Go.Proofs.YtlkphcjlgbimkaaGreat
open Go.RowKit Go.Shelf

noncomputable def twB (lp : List PgV) (ls : List StarV) : Bool := Lib.containsS (tkL lp) ariesS || ls.any (fun x => twS (tkL lp) x.s)
/-- New's way where all pages and stars are valid. -/
def NewAll (w : World) (lp : List PgV) (ls : List StarV) (e : Ending) (w' : World) : Prop :=
  (OrdK lp lp.length ∧ twB lp ls = false ∧ NewPost w lp ls e w') ∨
  (OrdK lp lp.length ∧ twB lp ls = true ∧ e = .returned (.tuple #[.pointer none, .int .i64 10]) ∧ ∃ d, w' = bw w d) ∨
  (¬ OrdK lp lp.length ∧ e = .returned (.tuple #[.pointer none, .int .i64 17]) ∧ ∃ d, w' = bw w d)
theorem bad_all {lp : List PgV} (h : badP lp = false) : ∀ p ∈ lp, PgOk p := fun p hp => by
  unfold badP at h
  rw [List.any_eq_false] at h
  have := h p hp
  simpa [pgB_iff] using this
theorem bw_lay {w W : World} (h : Below w.heap.size w W) (L : List (Obj ⊕ Ext)) : ∃ d, lay W L = bw w d := by
  obtain ⟨d, rfl⟩ := bw_of h
  obtain ⟨e, he⟩ := lay_ex (bw w d) L
  exact ⟨_, he.trans (bw_bw _ _ _)⟩
theorem NwI.book {w : World} {bk H : Nat} {vp vs vd : Value} {lp : List PgV} {ls : List StarV} {k : Nat} {W : World} {d : Ext} (h : NwI w bk H vp vs vd lp ls k W d) (hk : lp.length ≤ k) (A : List (Obj ⊕ Ext)) {z : Ext} (hz : lay W (A ++ [.inr d]) = bw w z) : BkA w bk lp ls (bw w z) := by
  rw [← hz]
  have hr := h.row
  rw [List.take_of_length_le (by unfold dysL; rw [List.length_map]; exact hk)] at hr
  have hS : w.heap.size ≤ H := by rw [← h.size]; exact h.below.size
  exact ⟨h.bk0, vd, vp, vs, (show Bk W bk vd vp vs from ⟨by rw [h.size]; exact h.bk1, h.c0, h.c1, h.c2⟩).lay _, sl_on (A := A) (B := [.inr d]) hr.sl, (ow_blk hr).mono fun b hb => ⟨Nat.le_trans hS hb, by have := h.bk1; omega⟩, h.pgs.lay _, h.sts.lay _, h.stb⟩
theorem ow_form' {w : World} {base : Nat} {v : Value} {l : List Int} (h : Ow w base v l) : ∃ a n c, v = .slice a n c := by
  obtain ⟨a, c, e⟩ := h.form
  exact ⟨a, _, c, e⟩
set_option maxHeartbeats 4000000 in
set_option maxRecDepth 100000 in
theorem alm_New_main {P : Nat → Prop} (vp vs : Value) (lp : List PgV) (ls : List StarV) (w : World) (hp : PgsD P w vp lp) (hP : ∀ b, P b → b < w.heap.size) (hv : SlG stR w vs ls) (h : lp.length ≤ 40) (hb : badP lp = false) (hc : catB ls = true) :
    Calls Tryz.prog 49 #[vp, vs] w (NewAll w lp ls) := by
  have hok := bad_all hb
  have hlen := (catB_iff.1 hc).len
  have HOk := Lib.hid hok
  have HC := Lib.hid (fun L => cat_Valid vs ls (lay w L) (hv.lay L))
  rw [hc] at HC
  have HB := Lib.hid (fun L => pgs_bad vp lp (lay w L) (hp.lay L))
  change Hid (∀ L, Calls _ _ _ _ fun e w' => e = .returned (.bool (badP lp)) ∧ _) at HB
  rw [hb] at HB
  have HCp := Lib.hid (fun L => alm_copied vp lp (lay w L) (hp.lay L) (fun b hb => Nat.lt_of_lt_of_le (hP b hb) (lay_extends w L).size) (by omega) (fun p hpm => by have := (hok p hpm).len; omega) (fun p hpm t ht => by
    obtain ⟨i, hi, rfl⟩ := List.getElem_of_mem ht
    have := (hok p hpm).ok i p.ts[i] (List.getElem?_eq_getElem hi)
    have h1 := (trkB_iff.1 this.1).lg
    have h2 := (trkB_iff.1 this.1).ld
    omega))
  have HCl := Lib.hid (fun L => cln_Star vs ls (lay w L) (hv.lay L) (by omega))
  have HPg := Lib.hid hp
  have HVs := Lib.hid hv
  obtain ⟨a, c, rfl⟩ := pgs_form hp
  obtain ⟨q, hq⟩ : ∃ q, lp.length = q := ⟨_, rfl⟩
  have HQ := Lib.hid hq
  rw [hq] at h HB HCp HPg ⊢
  have x1 : ¬ (40 : Int) < (q : Int) := by omega
  clear hp hq hv hok hlen hb hc
  refine lay_start ?_
  go_enter Tryz.func49, Tryz.ntmps49
  go_wp2_with (first | (go_at_call 53; refine (HB.out _).mono ?_; rintro e w' ⟨rfl, d1, rfl⟩) | (go_at_call 107; refine (HC.out _).mono ?_; rintro e w' ⟨rfl, d2, rfl⟩))
  refine (HCp.out _).mono ?_
  rintro e w' ⟨A, cA, d3, rfl, rfl, hA⟩
  rw [lay_bw] at hA ⊢
  have HA := Lib.hid hA
  clear hA
  go_wp2_with fail
  refine (HCl.out _).mono ?_
  rintro e w' ⟨v', d4, rfl, rfl, h4⟩
  rw [lay_bw] at h4 ⊢
  obtain ⟨va, vc, rfl⟩ := h4.form
  have H4 := Lib.hid h4
  clear h4
  rw [HQ.out] at HA ⊢
  go_wp2_with fail
  obtain ⟨bk, hbk⟩ : ∃ bk, posn w [d4.n, d3.n, d2.n, d1.n] = bk := ⟨_, rfl⟩
  obtain ⟨W0, hW0⟩ : ∃ W0, lay w [.inl (.cells #[.slice none 0 0, .slice A q cA, .slice va ls.length vc] 107 (0, 0)), .inr d4, .inr d3, .inr d2, .inr d1] = W0 := ⟨_, rfl⟩
  have hI : NwI w bk W0.heap.size (.slice A q cA) (.slice va ls.length vc) (.slice none 0 0) lp ls 0 W0 (noExt W0) := by
    rw [← hbk, ← hW0]
    exact nwI_new w [.inr d4] [.inr d3, .inr d2, .inr d1] _ _ _ lp ls (HA.out.mono fun b hb => Nat.le_trans (lay_extends w [.inr d2, .inr d1]).size hb) (H4.out.le (lay_extends w [.inr d3, .inr d2, .inr d1]).size)
  have HI := Lib.hid hI
  rw [hbk, hW0]
  obtain ⟨H, hH⟩ : ∃ H, W0.heap.size = H := ⟨_, rfl⟩
  rw [hH] at HI
  clear hI hbk hW0 HA H4 hH
  go_loopw [30] (fun v30 wr => ∃ (i : Nat) (d : Ext) (W : World) (vd : Value), i ≤ q ∧ v30 = .int .i64 (i : Int) ∧ wr = lay W [.inr d] ∧ NwI w bk H (.slice A q cA) (.slice va ls.length vc) vd lp ls i W d ∧ OrdK lp i) (fun v30 _ => q - (intOf v30).toNat)
  case atStart => exact ⟨0, noExt W0, W0, _, Nat.zero_le _, rfl, (bw_noExt W0).symm, HI.out, fun i p q hi => absurd hi (by omega)⟩
  case round =>
    clear HI
    obtain ⟨i, d, W, vd, hi, rfl, rfl, hI, hO⟩ := hrel
    have HI := Lib.hid hI
    have HO := Lib.hid hO
    clear hI hO
    by_cases hlt : i < q
    · obtain ⟨p, hpp⟩ : ∃ p, lp[i]? = some p := ⟨_, List.getElem?_eq_getElem (by rw [HQ.out]; exact hlt)⟩
      have hpW : PgsD P W (.slice a q c) lp := HPg.out.keep HI.out.below.size (fun b _ hb => HI.out.below.block b hb)
      obtain ⟨b, o, cap, hv1, hcc, hbb, -, hr⟩ := hpW.open (by rw [HQ.out]; omega)
      rw [HQ.out] at hv1 hcc
      cases hv1
      obtain ⟨x, hw, hD, c0, c1, c2, c3⟩ := hr i p hpp
      have hok := HOk.out p (List.mem_of_getElem? hpp)
      have HNum := Lib.hid (fun L => cal_Number x.y x.m x.d (lay W L))
      have hdx := hok.dt
      rw [← hD.y, ← hD.m, ← hD.d] at hdx
      rw [hdx, if_pos rfl, if_pos rfl] at HNum
      have x2 : (i : Int) < (q : Int) := by omega
      have x3 : (0 : Int) ≤ (i : Int) := by omega
      clear hpW hr
      go_wp2_with fail
      refine (HNum.out _).mono ?_
      rintro e w' ⟨rfl, d5, rfl⟩
      obtain ⟨N0, hN0⟩ : ∃ N0, numI x.y x.m x.d = N0 := ⟨_, rfl⟩
      have HN0 := Lib.hid hN0
      rw [lay_bw, hN0]
      clear hN0 hdx
      have k0 := HI.out.c0
      have kz := HI.out.fz
      have kb : bk < W.heap.size := by rw [HI.out.size]; exact HI.out.bk1
      have HR0 : Hid (Ow (lay W [.inr d]) W.heap.size vd ((dysL lp).take i)) := Lib.hid (by rw [HI.out.size]; exact HI.out.row)
      have HRl : Hid (((dysL lp).take i).length ≤ 1000000000) := Lib.hid (by rw [List.length_take]; omega)
      have HNw : Hid ((Lit.int .i64 N0).wf = true) := Lib.hid (by
        have h1 := hok.lo
        have h2 := hok.hi
        rw [← hD.y, ← hD.m, ← hD.d, HN0.out] at h1 h2
        simp [Lit.wf, IntKind.min, IntKind.max, IntKind.bits, IntKind.signed]
        omega)
      have HTk : Hid ((dysL lp).take i ++ [N0] = (dysL lp).take (i + 1)) := Lib.hid (by
        rw [List.take_add_one]
        have : (dysL lp)[i]? = some N0 := by unfold dysL; rw [List.getElem?_map, hpp, ← HN0.out, hD.y, hD.m, hD.d]; rfl
        rw [this]; rfl)
      by_cases hi0 : i = 0
      · subst hi0
        have x4 : ¬ (0 : Int) < ((0 : Nat) : Int) := by decide
        go_wp2_with (at_builtin; refine push_int rfl _ _ rfl (lay W []) _ N0 3 (posn W [d5.n, 1, d.n]) vd _ (lay_below (A := [_, _, _, _]) (B := [])) (ow_on (A := [_, _, _]) HR0.out) (lay_get W _ 0 _ rfl) rfl rfl HRl.out HNw.out ?_; intro vd' d' hv'; obtain ⟨ga, gn, gc, eg⟩ := ow_form' hv'; subst eg; have HV' := Lib.hid hv'; clear hv')
        go_roundw
        case rel => exact ⟨1, d', W.setCell ⟨bk, 0, none⟩ (.slice ga gn gc), _, by omega, rfl, bw_setCell W d' bk 0 _ kb, HI.out.step (by have h := HV'.out; rw [HTk.out] at h; rw [← HI.out.size]; exact h), fun j p q hj => absurd hj (by omega)⟩
        case measure => simp [intOf]; omega
      · obtain ⟨j, rfl⟩ : ∃ j, i = j + 1 := ⟨i - 1, by omega⟩
        obtain ⟨p0, hp0⟩ : ∃ p0, lp[j]? = some p0 := ⟨_, List.getElem?_eq_getElem (by rw [HQ.out]; omega)⟩
        have hlr : ((dysL lp).take (j + 1)).length = j + 1 := by rw [List.length_take]; unfold dysL; rw [List.length_map, HQ.out]; omega
        obtain ⟨g, cap', hvd, hg1, hg2, hg3, hg4⟩ := HR0.out.form1 (by omega)
        rw [hlr] at hvd hg3
        obtain ⟨N1, hN1⟩ : ∃ N1, numI p0.y p0.m p0.d = N1 := ⟨_, rfl⟩
        have hnth : nth ((dysL lp).take (j + 1)) j = N1 := by
          have : ((dysL lp).take (j + 1))[j]? = some N1 := by
            rw [List.getElem?_take_of_lt (by omega)]
            unfold dysL; rw [List.getElem?_map, hp0, ← hN1]; rfl
          unfold nth
          rw [List.getD, this]; rfl
        have e1 : ∀ A, (lay W (A ++ [.inr d])).cell? ⟨g, j, none⟩ = some (.int .i64 N1) := fun A => by
          have h := (ow_on (A := A) HR0.out)
          rw [hvd] at h
          have := h.cell (i := j) (by omega)
          rw [hnth] at this
          exact this
        have e2 := e1 [.inr d5, .inl (.cells #[.int .i64 x.y, .int .i64 x.m, .int .i64 x.d, .slice x.ta x.tn x.tc] 53 (0, 0))]
        change (lay W [.inr d5, .inl (.cells #[.int .i64 x.y, .int .i64 x.m, .int .i64 x.d, .slice x.ta x.tn x.tc] 53 (0, 0)), .inr d]).cell? ⟨g, j, none⟩ = some (.int .i64 N1) at e2
        have HE1 := Lib.hid e1
        have HN1 := Lib.hid hN1
        have HP0 := Lib.hid hp0
        subst hvd
        clear e1 hN1 hp0 hnth hlr
        have x4 : (0 : Int) < (j : Int) + 1 := by omega
        have x5 : IntKind.i64.wrap ((j : Int) + 1 - 1) = (j : Int) := by rw [IntWalk.i64_in _ (by omega)]; omega
        have x6 : (0 : Int) ≤ (j : Int) := by omega
        have x7 : (j : Int) < (j : Int) + 1 := by omega
        have x8 : ((j + 1 : Nat) : Int) = (j : Int) + 1 := by omega
        rw [x8]
        rw [x8] at x2 x3
        by_cases hle : N0 ≤ N1
        · have HNo : Hid (¬ OrdK lp lp.length) := Lib.hid (fun h => by
            have := h j p0 p (by rw [HQ.out]; omega) HP0.out hpp
            rw [HN1.out, ← hD.y, ← hD.m, ← hD.d, HN0.out] at this
            omega)
          go_wp2_with fail
          exact bodyPost_ret (v := .tuple #[.pointer none, .int .i64 17]) (by simp [results, Tryz.results49, go_sem]) rfl (.inr (.inr ⟨HNo.out, rfl, bw_lay HI.out.below _⟩))
        · have hgt : N1 < N0 := by omega
          go_wp2_with (at_builtin; refine push_int rfl _ _ rfl (lay W []) _ N0 3 (posn W [d5.n, 1, d.n]) _ _ (lay_below (A := [_, _, _, _]) (B := [])) (ow_on (A := [_, _, _]) HR0.out) (lay_get W _ 0 _ rfl) rfl rfl HRl.out HNw.out ?_; intro vd' d' hv'; obtain ⟨ga, gn, gc, eg⟩ := ow_form' hv'; subst eg; have HV' := Lib.hid hv'; clear hv')
          go_roundw
          case rel => exact ⟨j + 2, d', W.setCell ⟨bk, 0, none⟩ (.slice ga gn gc), _, by omega, by go_num, bw_setCell W d' bk 0 _ kb, HI.out.step (by have h := HV'.out; rw [HTk.out] at h; rw [← HI.out.size]; exact h), fun u p' q' hu h1 h2 => by
            by_cases huj : u = j
            · subst huj
              rw [HP0.out] at h1; cases h1
              rw [hpp] at h2; cases h2
              rw [HN1.out, ← hD.y, ← hD.m, ← hD.d, HN0.out]; exact hgt
            · exact HO.out u p' q' (by omega) h1 h2⟩
          case measure => simp [intOf]; omega
    · have hiq : i = q := by omega
      have x2 : ¬ (i : Int) < (q : Int) := by omega
      have HOr : Hid (OrdK lp lp.length) := Lib.hid (by rw [HQ.out, ← hiq]; exact HO.out)
      have hF : Few lp := ⟨by rw [HQ.out]; omega, fun p hp => by have := (HOk.out p hp).len; omega⟩
      have hB : Bk W bk vd (.slice A q cA) (.slice va ls.length vc) := ⟨by rw [HI.out.size]; exact HI.out.bk1, HI.out.c0, HI.out.c1, HI.out.c2⟩
      have HT := Lib.hid (alm_tracked bk vd (.slice A q cA) (.slice va ls.length vc) lp (lay W [.inr d]) (hB.lay _) (HI.out.pgs.lay _) hF)
      clear hF hB
      go_wp2_with fail
      refine HT.out.mono ?_
      rintro e w' ⟨ta, tc, d6, rfl, rfl, hTn, hTs⟩
      rw [lay_bw] at hTs ⊢
      have HTs := Lib.hid hTs
      clear hTs hTn
      go_wp2_with fail
      have HCn := Lib.hid (str_Contains (.slice ta (tkL lp).length tc) (tkL lp) ariesS (lay W [.inl (.cells #[.slice ta (tkL lp).length tc] 76 (0, 0)), .inr d6, .inr d]) (slG_on (A := [_]) HTs.out))
      have eI : ∀ args w, (callFunc 109 args).run Tryz.prog w = .ok (.enter 109 args) w := enters_of Tryz.func109 (by kernel_rfl) rfl
      have HSt := Lib.hid (st_ContainsFunc 109 [.pointer (some ⟨posn W [d6.n, d.n], 0, none⟩)] (fun x => twS (tkL lp) x.s) vs ls (lay W [.inl (.cells #[.slice ta (tkL lp).length tc] 76 (0, 0)), .inr d6, .inr d]) ((HVs.out.ext HI.out.below).lay _) eI (fun x _ e =>
        (alm_New2 x (tkL lp) (.slice ta (tkL lp).length tc) (posn W [d6.n, d.n]) (lay W [.inr e, .inl (.cells #[.slice ta (tkL lp).length tc] 76 (0, 0)), .inr d6, .inr d]) (by simp only [lay_size, shp, posn, List.sum_cons, List.sum_nil]; omega) (by simp [go_sem]) (slG_on (A := [_, _]) HTs.out)).mono fun e w' ⟨h1, d2, h2⟩ => ⟨h1, _, h2.trans (bw_bw _ _ _)⟩))
      have HTw : Hid (twB lp ls = (Lib.containsS (tkL lp) ariesS || ls.any (fun x => twS (tkL lp) x.s))) := Lib.hid rfl
      clear eI
      generalize Lib.containsS (tkL lp) ariesS = r1 at *
      generalize ls.any (fun x => twS (tkL lp) x.s) = r2 at *
      go_wp2_with fail
      refine HCn.out.mono ?_
      rintro e w' ⟨rfl, rfl⟩
      cases r1
      · go_wp2_with fail
        refine HSt.out.mono ?_
        rintro e w' ⟨rfl, d7, rfl⟩
        cases r2
        · go_wp2_with fail
          obtain ⟨z, hz⟩ := bw_lay HI.out.below [.inr d7, .inl (.cells #[.slice ta (tkL lp).length tc] 76 (0, 0)), .inr d6, .inr d]
          exact bodyPost_ret (v := .tuple #[.pointer (some ⟨bk, 0, none⟩), .int .i64 0]) (by simp [results, Tryz.results49, go_sem]) rfl (.inl ⟨HOr.out, HTw.out, bk, z, rfl, hz, HI.out.book (by rw [HQ.out]; omega) [.inr d7, .inl (.cells #[.slice ta (tkL lp).length tc] 76 (0, 0)), .inr d6] hz⟩)
        · go_wp2_with fail
          exact bodyPost_ret (v := .tuple #[.pointer none, .int .i64 10]) (by simp [results, Tryz.results49, go_sem]) rfl (.inr (.inl ⟨HOr.out, HTw.out, rfl, bw_lay HI.out.below _⟩))
      · go_wp2_with fail
        exact bodyPost_ret (v := .tuple #[.pointer none, .int .i64 10]) (by simp [results, Tryz.results49, go_sem]) rfl (.inr (.inl ⟨HOr.out, HTw.out, rfl, bw_lay HI.out.below _⟩))
end Go.Proofs.YtlkphcjlgbimkaaGreat
/- The reference's New in full. -/
namespace Go.Proofs.YtlkphcjlgbimkaaGreat
open Go.RowKit Go.Shelf

/-- A tracked name that is Aries' or a star's. -/
def twR (ls : List StarV) (s : ByteArray) : Bool := isA s || decide (0 ≤ fndS ls s)
theorem isA_iff {s : ByteArray} : isA s = true ↔ s = ariesS := by
  rw [← nmB_iff]
  unfold isA nmB
  rw [aries_list]
theorem fndS_iff {ls : List StarV} {s : ByteArray} : decide (0 ≤ fndS ls s) = true ↔ ∃ x ∈ ls, x.s = s := by
  unfold fndS
  rw [idxR_any, List.any_eq_true]
  constructor
  · rintro ⟨x, hx, h⟩; exact ⟨x, hx, nmB_iff.1 h⟩
  · rintro ⟨x, hx, h⟩; exact ⟨x, hx, nmB_iff.2 h⟩
theorem twB_eq (lp : List PgV) (ls : List StarV) : twB lp ls = ((tkL lp).any (twR ls) || decide (0 ≤ fndS ls ariesS)) := by
  unfold twB
  rw [Bool.eq_iff_iff, Bool.or_eq_true, Bool.or_eq_true, Lib.containsS_iff, fndS_iff, List.any_eq_true, List.any_eq_true]
  constructor
  · rintro (h | ⟨x, hx, h⟩)
    · exact .inl ⟨ariesS, h, by unfold twR; rw [isA_iff.2 rfl]; rfl⟩
    · unfold twS at h
      rcases Bool.or_eq_true .. ▸ h with h | h
      · exact .inr ⟨x, hx, isA_iff.1 h⟩
      · refine .inl ⟨x.s, (Lib.containsS_iff _ _).1 h, ?_⟩
        unfold twR
        rw [fndS_iff.2 ⟨x, hx, rfl⟩, Bool.or_true]
  · rintro (⟨s, hs, h⟩ | ⟨x, hx, h⟩)
    · unfold twR at h
      rcases Bool.or_eq_true .. ▸ h with h | h
      · rw [isA_iff.1 h] at hs; exact .inl hs
      · obtain ⟨x, hx, e⟩ := fndS_iff.1 h
        refine .inr ⟨x, hx, ?_⟩
        unfold twS
        rw [(Lib.containsS_iff _ _).2 (by rw [e]; exact hs), Bool.or_true]
    · refine .inr ⟨x, hx, ?_⟩
      unfold twS
      rw [isA_iff.2 h]; rfl
open Classical in
/-- The error number of a book. -/
noncomputable def newE (lp : List PgV) (ls : List StarV) : Int :=
  if 40 < lp.length then 4 else if badP lp = true ∨ catB ls = false then 1 else if ¬ OrdK lp lp.length then 17 else if twB lp ls = true then 10 else 0
theorem bad_yes {lp : List PgV} {i : Nat} {p : PgV} (h : lp[i]? = some p) (hb : pgB p = false) : badP lp = true := by
  unfold badP
  rw [List.any_eq_true]
  exact ⟨p, List.mem_of_getElem? h, by rw [hb]; rfl⟩
theorem bad_no {lp : List PgV} (h : ∀ (i : Nat) p, lp[i]? = some p → pgB p = true) : badP lp = false := by
  unfold badP
  rw [List.any_eq_false]
  intro p hp
  obtain ⟨i, hi⟩ := List.mem_iff_getElem?.1 hp
  rw [h i p hi]; decide
theorem newE_full {lp : List PgV} {ls : List StarV} (h : 40 < lp.length) : 4 = newE lp ls := by unfold newE; rw [if_pos h]
theorem newE_arg {lp : List PgV} {ls : List StarV} (h : lp.length ≤ 40) (k : badP lp = true ∨ catB ls = false) : 1 = newE lp ls := by unfold newE; rw [if_neg (by omega), if_pos k]
theorem newE_ord {lp : List PgV} {ls : List StarV} (h : lp.length ≤ 40) (k : badP lp = false) (c : catB ls = true) (o : ¬ OrdK lp lp.length) : 17 = newE lp ls := by unfold newE; rw [if_neg (by omega), if_neg (by rw [k, c]; simp), if_pos o]
theorem newE_tw {lp : List PgV} {ls : List StarV} (h : lp.length ≤ 40) (k : badP lp = false) (c : catB ls = true) (o : OrdK lp lp.length) (t : twB lp ls = true) : 10 = newE lp ls := by unfold newE; rw [if_neg (by omega), if_neg (by rw [k, c]; simp), if_neg (by simpa using o), if_pos t]
theorem newE_ok {lp : List PgV} {ls : List StarV} (h : lp.length ≤ 40) (k : badP lp = false) (c : catB ls = true) (o : OrdK lp lp.length) (t : twB lp ls = false) : 0 = newE lp ls := by unfold newE; rw [if_neg (by omega), if_neg (by rw [k, c]; simp), if_neg (by simpa using o), if_neg (by rw [t]; decide)]
theorem ordK_mono {lp : List PgV} {i j : Nat} (h : OrdK lp i) (hj : j ≤ i) : OrdK lp j := fun k p q hk => h k p q (by omega)
set_option maxHeartbeats 4000000 in
set_option maxRecDepth 100000 in
theorem ref17_New {P : Nat → Prop} (vp vs : Value) (lp : List PgV) (ls : List StarV) (w : World) (hp : PgsD P w vp lp) (hv : SlG stR w vs ls) :
    Calls Tryz.prog 59 #[vp, vs] w fun e w' => e = .returned (.int .i64 (newE lp ls)) ∧ ∃ d, w' = bw w d := by
  by_cases h40 : 40 < lp.length
  · have HE := Lib.hid (newE_full (ls := ls) h40)
    obtain ⟨a, c, rfl⟩ := pgs_form hp
    obtain ⟨q, hq⟩ : ∃ q, lp.length = q := ⟨_, rfl⟩
    rw [hq] at h40 ⊢
    have x1 : (40 : Int) < (q : Int) := by omega
    clear hp hq hv
    refine lay_start ?_
    go_enter Tryz.func59, Tryz.ntmps59
    go_wp2_with fail
    go_ret
    exact ⟨ret_int HE.out, lay_ex _ _⟩
  · have hle : lp.length ≤ 40 := by omega
    have HV := Lib.hid (fun L => ref16_Valid vs ls (lay w L) (hv.lay L))
    have HFa := Lib.hid (fun L => ref16_Find vs ls ariesS (lay w L) (hv.lay L))
    have HF := Lib.hid (fun s L => ref16_Find vs ls s (lay w L) (hv.lay L))
    have HEa := Lib.hid (fun k => newE_arg (ls := ls) hle k)
    have HEo := Lib.hid (fun k c o => newE_ord (ls := ls) hle k c o)
    have HEt := Lib.hid (fun k c o t => newE_tw (ls := ls) hle k c o t)
    have HEk := Lib.hid (fun k c o t => newE_ok (ls := ls) hle k c o t)
    have HTq := Lib.hid (twB_eq lp ls)
    have HT := Lib.hid (fun L h => ref17_Tracked vp vs lp (lay w L) (hp.lay L) h)
    have HPg := Lib.hid hp
    obtain ⟨a, c, rfl⟩ := pgs_form hp
    obtain ⟨sa, sc, rfl⟩ := hv.form
    obtain ⟨q, hq⟩ : ∃ q, lp.length = q := ⟨_, rfl⟩
    have HQ := Lib.hid hq
    rw [hq] at hle HT HPg ⊢
    have x1 : ¬ (40 : Int) < (q : Int) := by omega
    generalize newE lp ls = RES at *
    generalize ls.length = sn at *
    clear hp hq hv h40
    refine lay_start ?_
    go_enter Tryz.func59, Tryz.ntmps59
    go_wp2_with fail
    go_loopw [5] (fun v1 wr => ∃ (i : Nat) (d : Ext), i ≤ q ∧ v1 = .int .i64 (i : Int) ∧ wr = lay w [.inr d] ∧ ∀ (j : Nat) p, j < i → lp[j]? = some p → pgB p = true) (fun v1 _ => q - (intOf v1).toNat)
    case atStart => exact ⟨0, noExt _, Nat.zero_le _, rfl, (bw_noExt _).symm, fun j p hj => absurd hj (Nat.not_lt_zero j)⟩
    case round =>
      obtain ⟨i, d, hi, rfl, rfl, hA⟩ := hrel
      have HA := Lib.hid hA
      clear hA
      by_cases hlt : i < q
      · obtain ⟨p, hpp⟩ : ∃ p, lp[i]? = some p := ⟨_, List.getElem?_eq_getElem (by rw [HQ.out]; exact hlt)⟩
        obtain ⟨b, o, cap, hv1, hcc, hbb, -, hr⟩ := HPg.out.open (by rw [HQ.out]; omega)
        rw [HQ.out] at hv1 hcc
        cases hv1
        obtain ⟨x, hw, hD, c0, c1, c2, c3⟩ := hr i p hpp
        have HVp := Lib.hid (fun L => ref13_Valid x.y x.m x.d (.slice x.ta x.tn x.tc) p.ts (lay w L) (hD.ts.lay L))
        rw [hD.y, hD.m, hD.d, show (⟨p.y, p.m, p.d, p.ts⟩ : PgV) = p from rfl, ← hD.y, ← hD.m, ← hD.d] at HVp
        have HPp := Lib.hid hpp
        have x2 : (i : Int) < (q : Int) := by omega
        have x3 : (0 : Int) ≤ (i : Int) := by omega
        clear hr hD hw hpp
        obtain ⟨xy, xm, xd, ta, tn, tc⟩ := x
        dsimp only at c0 c1 c2 c3 HVp
        cases hb : pgB p
        · rw [hb] at HVp
          have HB := Lib.hid (HEa.out (.inl (bad_yes HPp.out hb)))
          clear hb
          go_wp2_with fail
          refine (HVp.out _).mono ?_
          rintro e w' ⟨rfl, d2, rfl⟩
          go_wp2_with fail
          go_ret
          exact ⟨ret_int HB.out, lay_ex _ _⟩
        · rw [hb] at HVp
          have HN : Hid (∀ (j : Nat) p, j < i + 1 → lp[j]? = some p → pgB p = true) := Lib.hid (fun j p' hj h => by
            by_cases e : j = i
            · subst e; rw [HPp.out] at h; cases h; exact hb
            · exact HA.out j p' (by omega) h)
          clear hb
          go_wp2_with fail
          refine (HVp.out _).mono ?_
          rintro e w' ⟨rfl, d2, rfl⟩
          go_wp2_with fail
          go_roundw
          case rel => exact ⟨i + 1, _, by omega, by go_num, Classical.choose_spec (lay_all w _), HN.out⟩
          case measure => simp [intOf]; omega
      · obtain rfl : i = q := by omega
        have HBn : Hid (badP lp = false) := Lib.hid (bad_no fun j p h => HA.out j p (by have := (List.getElem?_eq_some_iff.1 h).1; rw [HQ.out] at this; exact this) h)
        have HOk := Lib.hid (bad_all HBn.out)
        have HFw : Hid (Few lp) := Lib.hid ⟨by rw [HQ.out]; omega, fun p hp => by have := (HOk.out p hp).len; omega⟩
        have x2 : ¬ (i : Int) < (i : Int) := by omega
        clear HA
        cases hc : catB ls
        · rw [hc] at HV
          have HB := Lib.hid (HEa.out (.inr hc))
          clear hc
          go_wp2_with fail
          refine (HV.out _).mono ?_
          rintro e w' ⟨rfl, d2, rfl⟩
          go_wp2_with fail
          go_ret
          exact ⟨ret_int HB.out, lay_ex _ _⟩
        · rw [hc] at HV
          have HC := Lib.hid hc
          clear hc
          go_wp2_with fail
          refine (HV.out _).mono ?_
          rintro e w' ⟨rfl, d2, rfl⟩
          rw [lay_bw]
          go_wp2_with fail
          go_loopw [6] (fun v1 wr => ∃ (k : Nat) (d : Ext), k + 1 ≤ max i 1 ∧ v1 = .int .i64 ((k : Int) + 1) ∧ wr = lay w [.inr d] ∧ OrdK lp (k + 1)) (fun v1 _ => i - (intOf v1).toNat)
          case atStart => exact ⟨0, _, by omega, rfl, Classical.choose_spec (lay_all w _), fun u p q hu => absurd hu (by omega)⟩
          case round =>
            clear HV
            obtain ⟨k, d3, hk, rfl, rfl, hO⟩ := hrel
            have HO := Lib.hid hO
            clear hO
            by_cases hlt : k + 1 < i
            · obtain ⟨p, hpp⟩ : ∃ p, lp[k]? = some p := ⟨_, List.getElem?_eq_getElem (by rw [HQ.out]; omega)⟩
              obtain ⟨p2, hpp2⟩ : ∃ p2, lp[k + 1]? = some p2 := ⟨_, List.getElem?_eq_getElem (by rw [HQ.out]; omega)⟩
              obtain ⟨b, o, cap, hv1, hcc, hbb, -, hr⟩ := HPg.out.open (by rw [HQ.out]; omega)
              rw [HQ.out] at hv1 hcc
              cases hv1
              obtain ⟨x, hw, hD, c0, c1, c2, c3⟩ := hr k p hpp
              obtain ⟨y, hw2, hD2, e0, e1, e2, e3⟩ := hr (k + 1) p2 hpp2
              have hdx := (HOk.out p (List.mem_of_getElem? hpp)).dt
              have hdy := (HOk.out p2 (List.mem_of_getElem? hpp2)).dt
              rw [← hD.y, ← hD.m, ← hD.d] at hdx
              rw [← hD2.y, ← hD2.m, ← hD2.d] at hdy
              have HNx := Lib.hid (fun W => ref09_Number x.y x.m x.d W hdx)
              have HNy := Lib.hid (fun W => ref09_Number y.y y.m y.d W hdy)
              obtain ⟨N0, hN0⟩ : ∃ N0, numI x.y x.m x.d = N0 := ⟨_, rfl⟩
              obtain ⟨N1, hN1⟩ : ∃ N1, numI y.y y.m y.d = N1 := ⟨_, rfl⟩
              have hM0 : numI p.y p.m p.d = N0 := by rw [← hD.y, ← hD.m, ← hD.d, hN0]
              have hM1 : numI p2.y p2.m p2.d = N1 := by rw [← hD2.y, ← hD2.m, ← hD2.d, hN1]
              rw [hN0] at HNx
              rw [hN1] at HNy
              have HM0 := Lib.hid hM0
              have HM1 := Lib.hid hM1
              have HPp := Lib.hid hpp
              have HPp2 := Lib.hid hpp2
              have y1 : (k : Int) + 1 < (i : Int) := by omega
              have y2 : (k : Int) < (i : Int) := by omega
              have y3 : (0 : Int) ≤ (k : Int) := by omega
              have y4 : (0 : Int) ≤ (k : Int) + 1 := by omega
              have y5 : ((k : Int) + 1).toNat = k + 1 := by omega
              have y6 : IntKind.i64.wrap ((k : Int) + 1 - 1) = (k : Int) := by rw [IntWalk.i64_in _ (by omega)]; omega
              clear hr hD hw hD2 hw2 hpp hpp2 hN0 hN1 hM0 hM1 hdx hdy
              obtain ⟨xy, xm, xd, ta, tn, tc⟩ := x
              obtain ⟨yy, ym, yd, ua, un, uc⟩ := y
              dsimp only at c0 c1 c2 c3 e0 e1 e2 e3 HNx HNy
              by_cases hle2 : N1 ≤ N0
              · have HB : Hid (17 = RES) := Lib.hid (HEo.out HBn.out HC.out (fun h => by
                  have := h k p p2 (by rw [HQ.out]; omega) HPp.out HPp2.out
                  rw [HM0.out, HM1.out] at this
                  omega))
                go_wp2_with fail
                refine region_bw (by kernel_rfl) (by kernel_rfl) ?_
                repeat (go_big_quiet_step ((first | ((with_reducible refine bq (HNx.out _) ?_); exact (fun d => ⟨d, rfl⟩)) | ((with_reducible refine bq (HNx.out _) ?_); exact (fun d => lay_join _ _ _ d)) | ((with_reducible refine bq (HNy.out _) ?_); exact (fun d => ⟨d, rfl⟩)) | ((with_reducible refine bq (HNy.out _) ?_); exact (fun d => lay_join _ _ _ d)))))
                refine wpQuiet_nil ?_
                rintro w' ⟨d, rfl⟩
                rw [lay_bw]
                go_wp2_with fail
                go_ret
                exact ⟨ret_int HB.out, lay_ex _ _⟩
              · have hgt : N0 < N1 := by omega
                have HN : Hid (OrdK lp (k + 1 + 1)) := Lib.hid (fun u p' q' hu h1 h2 => by
                  by_cases huj : u = k
                  · subst huj
                    rw [HPp.out] at h1; cases h1
                    rw [HPp2.out] at h2; cases h2
                    rw [HM0.out, HM1.out]; exact hgt
                  · exact HO.out u p' q' (by omega) h1 h2)
                go_wp2_with fail
                refine region_bw (by kernel_rfl) (by kernel_rfl) ?_
                repeat (go_big_quiet_step ((first | ((with_reducible refine bq (HNx.out _) ?_); exact (fun d => ⟨d, rfl⟩)) | ((with_reducible refine bq (HNx.out _) ?_); exact (fun d => lay_join _ _ _ d)) | ((with_reducible refine bq (HNy.out _) ?_); exact (fun d => ⟨d, rfl⟩)) | ((with_reducible refine bq (HNy.out _) ?_); exact (fun d => lay_join _ _ _ d)))))
                refine wpQuiet_nil ?_
                rintro w' ⟨d, rfl⟩
                rw [lay_bw]
                go_wp2_with fail
                go_roundw
                case rel => exact ⟨k + 1, _, by omega, by go_num, Classical.choose_spec (lay_all w _), HN.out⟩
                case measure => simp [intOf]; omega
            · have HOr : Hid (OrdK lp lp.length) := Lib.hid (ordK_mono HO.out (by rw [HQ.out]; omega))
              have y1 : ¬ (k : Int) + 1 < (i : Int) := by omega
              clear HO
              go_wp2_with fail
              refine (HT.out _ HFw.out).mono ?_
              rintro e w' ⟨ta, tc, d4, rfl, rfl, hTn, hTs⟩
              rw [lay_bw] at hTs ⊢
              have HTs := Lib.hid hTs
              clear hTs hTn
              obtain ⟨T, hT⟩ : ∃ T, tkL lp = T := ⟨_, rfl⟩
              rw [hT] at HTs HTq ⊢
              obtain ⟨n, hn⟩ : ∃ n, T.length = n := ⟨_, rfl⟩
              have HNn := Lib.hid hn
              have hTl : n ≤ 9223372036854775807 := by obtain ⟨_, _, _, h, _⟩ := HTs.out; omega
              rw [hn] at HTs ⊢
              clear hT hn
              go_wp2_with fail
              go_loopw [9] (fun v1 wr => ∃ (j : Nat) (d : Ext), j ≤ n ∧ v1 = .int .i64 (j : Int) ∧ wr = lay w [.inr d] ∧ SlG strR (lay w [.inr d]) (.slice ta n tc) T ∧ ∀ (u : Nat) s, u < j → T[u]? = some s → twR ls s = false) (fun v1 _ => n - (intOf v1).toNat)
              case atStart => exact ⟨0, _, Nat.zero_le _, rfl, Classical.choose_spec (lay_all w _), by rw [← Classical.choose_spec (lay_all w [.inr d4, .inl (.cells #[.slice a i c, .slice sa sn sc] 32 (0, 0)), .inr d3])]; exact HTs.out, fun u s hu => absurd hu (Nat.not_lt_zero u)⟩
              case round =>
                clear HTs
                obtain ⟨j, d5, hj, rfl, rfl, hS, hA⟩ := hrel
                have HS := Lib.hid hS
                have HA := Lib.hid hA
                clear hS hA
                by_cases hjn : j < n
                · obtain ⟨s, hs⟩ : ∃ s, T[j]? = some s := ⟨_, List.getElem?_eq_getElem (by rw [HNn.out]; exact hjn)⟩
                  obtain ⟨bt, ot, ct, hv1, hcc, hbb, hr⟩ := HS.out.open (by rw [HNn.out]; omega)
                  rw [HNn.out] at hv1 hcc
                  cases hv1
                  have e0 : (lay w [.inr d5]).cell? ⟨bt, ot + j, none⟩ = some (.string s) := by
                    have := hr j s hs 0 _ rfl
                    simpa [strR] using this
                  have HFs := Lib.hid (fun L => HF.out s L)
                  have HSs := Lib.hid hs
                  have htw : twR ls s = (isA s || decide (0 ≤ fndS ls s)) := rfl
                  have ho : isA s = (s.toList == [65, 114, 105, 101, 115]) := rfl
                  have HMem : Hid (twR ls s = true → T.any (twR ls) = true) := Lib.hid (fun h => List.any_eq_true.2 ⟨s, List.mem_of_getElem? hs, h⟩)
                  unfold IdxPost at HFs
                  have z1 : (j : Int) < (n : Int) := by omega
                  have z0 : (0 : Int) ≤ (j : Int) := by omega
                  generalize fndS ls s = F at *
                  clear hr hs
                  cases hA2 : isA s
                  · rw [hA2] at ho htw
                    have t1 := ho.symm
                    clear ho
                    by_cases hF0 : 0 ≤ F
                    · have HB : Hid (10 = RES) := Lib.hid (HEt.out HBn.out HC.out HOr.out (by rw [HTq.out, HMem.out (by rw [htw, decide_eq_true hF0]; rfl)]; rfl))
                      clear htw hA2
                      go_wp2_with (go_at_call 70; refine (HFs.out _).mono ?_; rintro e w' ⟨rfl, d6, rfl⟩)
                      go_ret
                      exact ⟨ret_int HB.out, lay_ex _ _⟩
                    · have HN : Hid (∀ (u : Nat) s, u < j + 1 → T[u]? = some s → twR ls s = false) := Lib.hid (fun u s' hu h => by
                        by_cases e : u = j
                        · subst e; rw [HSs.out] at h; cases h; rw [htw, decide_eq_false hF0]; rfl
                        · exact HA.out u s' (by omega) h)
                      clear htw hA2
                      go_wp2_with (go_at_call 70; refine (HFs.out _).mono ?_; rintro e w' ⟨rfl, d6, rfl⟩)
                      go_roundw
                      case rel => exact ⟨j + 1, _, by omega, by go_num, Classical.choose_spec (lay_all w _), by rw [← Classical.choose_spec (lay_all w [.inr d6, .inr d5])]; exact HS.out.lay [.inr d6], HN.out⟩
                      case measure => simp [intOf]; omega
                  · rw [hA2] at ho htw
                    have t1 := ho.symm
                    have HB : Hid (10 = RES) := Lib.hid (HEt.out HBn.out HC.out HOr.out (by rw [HTq.out, HMem.out (by rw [htw]; rfl)]; rfl))
                    clear ho htw hA2
                    go_wp2_with (go_at_call 70; refine (HFs.out _).mono ?_; rintro e w' ⟨rfl, d6, rfl⟩)
                    go_ret
                    exact ⟨ret_int HB.out, lay_ex _ _⟩
                · obtain rfl : j = n := by omega
                  have HAny : Hid (T.any (twR ls) = false) := Lib.hid (by
                    rw [List.any_eq_false]
                    intro s hs
                    obtain ⟨u, hu⟩ := List.mem_iff_getElem?.1 hs
                    rw [HA.out u s (by have := (List.getElem?_eq_some_iff.1 hu).1; rw [HNn.out] at this; exact this) hu]; decide)
                  rw [HAny.out, Bool.false_or] at HTq
                  unfold IdxPost at HFa
                  have z1 : ¬ (j : Int) < (j : Int) := by omega
                  generalize fndS ls ariesS = F at *
                  clear HA HS
                  by_cases hF0 : 0 ≤ F
                  · have HB : Hid (10 = RES) := Lib.hid (HEt.out HBn.out HC.out HOr.out (by rw [HTq.out, decide_eq_true hF0]))
                    go_wp2_with (go_at_call 70; refine (HFa.out _).mono ?_; rintro e w' ⟨rfl, d6, rfl⟩)
                    go_ret
                    exact ⟨ret_int HB.out, lay_ex _ _⟩
                  · have HB : Hid (0 = RES) := Lib.hid (HEk.out HBn.out HC.out HOr.out (by rw [HTq.out, decide_eq_false hF0]))
                    go_wp2_with (go_at_call 70; refine (HFa.out _).mono ?_; rintro e w' ⟨rfl, d6, rfl⟩)
                    go_ret
                    exact ⟨ret_int HB.out, lay_ex _ _⟩
end Go.Proofs.YtlkphcjlgbimkaaGreat
/- The law's large and made, in full. -/
namespace Go.Proofs.YtlkphcjlgbimkaaGreat
open Go.RowKit Go.Shelf

/-- A track, a page that is large. -/
def lgT (t : TrkV) : Bool := decide ((100 : Int) < (t.s.size : Int)) || decide ((40 : Int) < (t.g.length : Int)) || decide ((40 : Int) < (t.d.length : Int))
def lgP (p : PgV) : Bool := decide ((6 : Int) < (p.ts.length : Int)) || p.ts.any lgT
theorem tkD_len {P : Nat → Prop} {w : World} {x : TkW} {t : TrkV} (h : TkD P w x t) : x.gn = t.g.length ∧ x.dn = t.d.length := by
  obtain ⟨_, _, e1, _⟩ := h.g.1
  obtain ⟨_, _, e2, _⟩ := h.d.1
  exact ⟨(Value.slice.inj e1).2.1, (Value.slice.inj e2).2.1⟩
set_option maxHeartbeats 1000000 in
theorem law17_large11 {P : Nat → Prop} (x : TkW) (t : TrkV) (w : World) (h : TkD P w x t) :
    Calls Tryz.prog 56 #[.agg #[.string x.s, .slice x.ga x.gn x.gc, .slice x.da x.dn x.dc, .int .i64 x.p, .int .i64 x.q, .int .i64 x.r]] w fun e w' => e = .returned (.bool (lgT t)) ∧ ∃ d, w' = bw w d := by
  obtain ⟨h1, h2⟩ := tkD_len h
  have h3 := h.s
  unfold lgT
  rw [← h1, ← h2, ← h3]
  clear h h1 h2 h3
  obtain ⟨xs, ga, gn, gc, da, dn, dc, xp, xq, xr⟩ := x
  dsimp only
  by_cases a1 : (100 : Int) < (xs.size : Int)
  · rw [decide_eq_true a1]
    refine lay_start ?_
    go_enter Tryz.func56, Tryz.ntmps56
    go_wp2
    go_ret
    exact ⟨rfl, lay_ex _ _⟩
  · rw [decide_eq_false a1]
    by_cases a2 : (40 : Int) < (gn : Int)
    · rw [decide_eq_true a2]
      refine lay_start ?_
      go_enter Tryz.func56, Tryz.ntmps56
      go_wp2
      go_ret
      exact ⟨rfl, lay_ex _ _⟩
    · rw [decide_eq_false a2]
      refine lay_start ?_
      go_enter Tryz.func56, Tryz.ntmps56
      go_wp2
      go_ret
      exact ⟨by simp, lay_ex _ _⟩
theorem TkD.bw' {P : Nat → Prop} {w : World} {x : TkW} {t : TrkV} (h : TkD P w x t) (d : Ext) : TkD P (Go.Proofs.YtlkphcjlgbimkaaGreat.bw w d) x t := h.lay [.inr d]
theorem tks_large {P : Nat → Prop} (v : Value) (l : List TrkV) (w : World) (hv : TksD P w v l) :
    Calls Tryz.prog 55 #[v, .func (.func 56) #[] #[]] w fun e w' => e = .returned (.bool (l.any lgT)) ∧ ∃ d, w' = bw w d := by
  obtain ⟨ls, p, h1, h2, h3⟩ := tk_lift hv lgT
  rw [← h2]
  have eI : ∀ args w, (callFunc 56 args).run Tryz.prog w = .ok (.enter 56 args) w := enters_of Tryz.func56 (by kernel_rfl) rfl
  refine tk_ContainsFunc 56 [] p v ls w h1 eI fun x hx d => ?_
  obtain ⟨t, _, ht, e⟩ := h3 x hx
  rw [e]
  exact (law17_large11 (P := P) x t (bw w d) (ht.bw' d)).mono fun e w' ⟨a, b, c⟩ => ⟨a, _, c.trans (bw_bw _ _ _)⟩
theorem tksD_len {P : Nat → Prop} {w : World} {a : Option Addr} {n c : Nat} {l : List TrkV} (h : TksD P w (.slice a n c) l) : n = l.length := by
  obtain ⟨_, _, e⟩ := h.form
  exact (Value.slice.inj e).2.1
set_option maxHeartbeats 1000000 in
theorem law17_large1 {P : Nat → Prop} (x : PgW) (p : PgV) (w : World) (h : PgD P w x p) :
    Calls Tryz.prog 54 #[.agg #[.int .i64 x.y, .int .i64 x.m, .int .i64 x.d, .slice x.ta x.tn x.tc]] w fun e w' => e = .returned (.bool (lgP p)) ∧ ∃ d, w' = bw w d := by
  have h1 := tksD_len h.ts
  have HC := Lib.hid (fun L => tks_large (.slice x.ta x.tn x.tc) p.ts (lay w L) (h.ts.lay L))
  unfold lgP
  rw [← h1]
  clear h h1
  generalize p.ts.any lgT = r at *
  obtain ⟨xy, xm, xd, xa, xn, xc⟩ := x
  dsimp only at *
  by_cases a1 : (6 : Int) < (xn : Int)
  · rw [decide_eq_true a1]
    refine lay_start ?_
    go_enter Tryz.func54, Tryz.ntmps54
    go_wp2_with (go_at_call 55; refine (HC.out _).mono ?_; rintro e w' ⟨rfl, d, rfl⟩)
    go_ret
    exact ⟨rfl, lay_ex _ _⟩
  · rw [decide_eq_false a1]
    refine lay_start ?_
    go_enter Tryz.func54, Tryz.ntmps54
    go_wp2_with (go_at_call 55; refine (HC.out _).mono ?_; rintro e w' ⟨rfl, d, rfl⟩)
    go_ret
    exact ⟨rfl, lay_ex _ _⟩
theorem pgs_large {P : Nat → Prop} (v : Value) (l : List PgV) (w : World) (hv : PgsD P w v l) :
    Calls Tryz.prog 53 #[v, .func (.func 54) #[] #[]] w fun e w' => e = .returned (.bool (l.any lgP)) ∧ ∃ d, w' = bw w d := by
  obtain ⟨ls, p, h1, h2, h3⟩ := pg_lift hv lgP
  rw [← h2]
  have eI : ∀ args w, (callFunc 54 args).run Tryz.prog w = .ok (.enter 54 args) w := enters_of Tryz.func54 (by kernel_rfl) rfl
  refine pg_ContainsFunc 54 [] p v ls w h1 eI fun x hx d => ?_
  obtain ⟨t, _, ht, e⟩ := h3 x hx
  rw [e]
  exact (law17_large1 (P := P) x t (bw w d) ⟨ht.y, ht.m, ht.d, ht.ts.lay [.inr d]⟩).mono fun e w' ⟨a, b, c⟩ => ⟨a, _, c.trans (bw_bw _ _ _)⟩
set_option maxHeartbeats 2000000 in
theorem law17_large {P : Nat → Prop} (vp vs : Value) (lp : List PgV) (l : List StarV) (w : World) (hp : PgsD P w vp lp) (hv : SlG stR w vs l) :
    Calls Tryz.prog 12 #[vp, vs] w (AnyB w) := by
  have eI : ∀ args w, (callFunc 58 args).run Tryz.prog w = .ok (.enter 58 args) w := enters_of Tryz.func58 (by kernel_rfl) rfl
  have HI := Lib.hid (fun L => st_ContainsFunc 58 [] (fun x => decide ((100 : Int) < (x.s.size : Int))) vs l (lay w L) (hv.lay L) eI (fun x _ d => (law17_large2 x (bw (lay w L) d)).mono fun e w' ⟨h1, d2, h2⟩ => ⟨h1, _, h2.trans (bw_bw _ _ _)⟩))
  have HP := Lib.hid (fun L => pgs_large vp lp (lay w L) (hp.lay L))
  generalize l.any (fun x => decide ((100 : Int) < (x.s.size : Int))) = y at *
  generalize lp.any lgP = z at *
  obtain ⟨a, c, rfl⟩ := hv.form
  obtain ⟨pa, pc, rfl⟩ := pgs_form hp
  generalize l.length = m at *
  generalize lp.length = n at *
  clear hv hp eI
  refine lay_start ?_
  go_enter Tryz.func12, Tryz.ntmps12
  go_wp2_with (first | (go_at_call 53; refine (HP.out _).mono ?_; rintro e w' ⟨rfl, d, rfl⟩) | (go_at_call 57; refine (HI.out _).mono ?_; rintro e w' ⟨rfl, d, rfl⟩))
  all_goals go_ret
  all_goals exact ⟨_, rfl, lay_ex _ _⟩
end Go.Proofs.YtlkphcjlgbimkaaGreat
/- Contracts of package increments: Linear, Increment, and their references. -/
namespace Go.Proofs.YtlkphcjlgbimkaaGreat
open Go.RowKit

theorem mul_bd {x k : Int} (M : Int) (h1 : -M ≤ x) (h2 : x ≤ M) (hk : 0 ≤ k) : -(M * k) ≤ x * k ∧ x * k ≤ M * k := by
  have := Int.mul_le_mul_of_nonneg_right h1 hk
  have := Int.mul_le_mul_of_nonneg_right h2 hk
  rw [Int.neg_mul] at *
  omega

/-- The ends of the interpolation. -/
def linLo (x0 x1 num den : Int) : Int := (x0 * (den - num) + x1 * num) / den
def linHi (y0 y1 num den : Int) : Int := cdiv (y0 * (den - num) + y1 * num) den
structure LinOk (x0 y0 x1 y1 num den : Int) : Prop where
  a0 : -1099511627776 ≤ x0
  a1 : x0 ≤ 1099511627776
  b0 : -1099511627776 ≤ y0
  b1 : y0 ≤ 1099511627776
  c0 : -1099511627776 ≤ x1
  c1 : x1 ≤ 1099511627776
  d0 : -1099511627776 ≤ y1
  d1 : y1 ≤ 1099511627776
  n0 : 0 ≤ num
  n1 : num ≤ den
  m0 : 1 ≤ den
  m1 : den ≤ 4194304
structure LinBd (x0 y0 x1 y1 num den : Int) : Prop where
  a0 : -4611686018427387904 ≤ x0 * (den - num)
  a1 : x0 * (den - num) ≤ 4611686018427387904
  b0 : -4611686018427387904 ≤ y0 * (den - num)
  b1 : y0 * (den - num) ≤ 4611686018427387904
  c0 : -4611686018427387904 ≤ x1 * num
  c1 : x1 * num ≤ 4611686018427387904
  d0 : -4611686018427387904 ≤ y1 * num
  d1 : y1 * num ≤ 4611686018427387904
  s0 : -4611686018427387904 ≤ x0 * (den - num) + x1 * num
  s1 : x0 * (den - num) + x1 * num ≤ 4611686018427387904
  t0 : -4611686018427387904 ≤ y0 * (den - num) + y1 * num
  t1 : y0 * (den - num) + y1 * num ≤ 4611686018427387904
theorem linBd {x0 y0 x1 y1 num den : Int} (h : LinOk x0 y0 x1 y1 num den) : LinBd x0 y0 x1 y1 num den := by
  obtain ⟨a0, a1, b0, b1, c0, c1, d0, d1, n0, n1, m0, m1⟩ := h
  have p := mul_bd (x := x0) (k := den - num) 1099511627776 a0 a1 (by omega)
  have q := mul_bd (x := y0) (k := den - num) 1099511627776 b0 b1 (by omega)
  have r := mul_bd (x := x1) (k := num) 1099511627776 c0 c1 (by omega)
  have s := mul_bd (x := y1) (k := num) 1099511627776 d0 d1 (by omega)
  constructor <;> omega

set_option maxHeartbeats 400000 in
theorem inc_floor (a b : Int) (w : World) (hb : 1 ≤ b) (h1 : -9223372036854775807 ≤ a) (h2 : a ≤ 9223372036854775807) :
    Calls Tryz.prog 219 #[.int .i64 a, .int .i64 b] w fun e w' => e = .returned (.int .i64 (a / b)) ∧ w' = w := by
  go_enter Tryz.func219, Tryz.ntmps219
  go_wp2
  · go_ret
    refine ⟨ret_int ?_, rfl⟩
    rw [IntWalk.wrap64_in]
    · exact floor_neg hb ‹_›
    · rw [floor_neg hb ‹_›]; have := ediv_bd hb 9223372036854775807 (by decide) h1 h2; omega
  · go_ret
    exact ⟨ret_int (floor_pos hb ‹_›), rfl⟩
set_option maxHeartbeats 400000 in
theorem inc_ceil (a b : Int) (w : World) (hb : 1 ≤ b) (h1 : -9223372036854775807 ≤ a) (h2 : a ≤ 9223372036854775807) :
    Calls Tryz.prog 215 #[.int .i64 a, .int .i64 b] w fun e w' => e = .returned (.int .i64 (cdiv a b)) ∧ w' = w := by
  have h3 := ediv_bd (a := -a) hb 9223372036854775807 (by decide) (by omega) (by omega)
  go_enter Tryz.func215, Tryz.ntmps215
  go_wp2_with (go_at_call 219; refine (inc_floor _ _ _ (by omega) (by omega) (by omega)).mono ?_; rintro e w' ⟨rfl, rfl⟩)
  go_ret
  exact ⟨rfl, rfl⟩

set_option maxHeartbeats 1000000 in
theorem inc_linear (x0 y0 x1 y1 num den : Int) (w : World) (h : LinOk x0 y0 x1 y1 num den) :
    Calls Tryz.prog 217 #[(.agg #[.int .i64 (x0), .int .i64 (y0)]), (.agg #[.int .i64 (x1), .int .i64 (y1)]), .int .i64 num, .int .i64 den] w fun e w' => e = .returned (.agg #[.int .i64 (linLo x0 x1 num den), .int .i64 (linHi y0 y1 num den)]) ∧ ∃ d, w' = bw w d := by
  obtain ⟨q1, q2, q3, q4, q5, q6, q7, q8, q9, q10, q11, q12⟩ := linBd h
  obtain ⟨a0, a1, b0, b1, c0, c1, d0, d1, n0, n1, m0, m1⟩ := h
  refine lay_start ?_
  go_enter Tryz.func217, Tryz.ntmps217
  go_wp2_with fail
  refine region_bw_tail 27 (by kernel_rfl) (by kernel_rfl) ?_
  simp only [List.take_succ_cons, List.take_zero, List.drop_succ_cons, List.drop_zero]
  repeat (go_big_quiet_step ((first | (go_at_call 219; exact bqs (inc_floor _ _ _ (by omega) (by omega) (by omega)) ⟨_, rfl⟩) | (go_at_call 215; exact bqs (inc_ceil _ _ _ (by omega) (by omega) (by omega)) ⟨_, rfl⟩))))
  refine wpQuiet_nil ?_
  rintro w' ⟨d, rfl⟩
  go_wp2
  exact bodyPost_ret (v := (.agg #[.int .i64 (linLo x0 x1 num den), .int .i64 (linHi y0 y1 num den)])) (by simp [results, Tryz.results217, go_sem, linLo, linHi]) rfl ⟨rfl, lay_ex _ _⟩

set_option maxHeartbeats 1000000 in
theorem ref14_Linear (x0 y0 x1 y1 num den : Int) (w : World) (h : LinOk x0 y0 x1 y1 num den) :
    Calls Tryz.prog 211 #[(.agg #[.int .i64 (x0), .int .i64 (y0)]), (.agg #[.int .i64 (x1), .int .i64 (y1)]), .int .i64 num, .int .i64 den] w fun e w' => e = .returned (.agg #[.int .i64 (linLo x0 x1 num den), .int .i64 (linHi y0 y1 num den)]) ∧ ∃ d, w' = bw w d := by
  obtain ⟨q1, q2, q3, q4, q5, q6, q7, q8, q9, q10, q11, q12⟩ := linBd h
  obtain ⟨a0, a1, b0, b1, c0, c1, d0, d1, n0, n1, m0, m1⟩ := h
  refine lay_start ?_
  go_enter Tryz.func211, Tryz.ntmps211
  go_wp2_with fail
  refine region_bw_tail 27 (by kernel_rfl) (by kernel_rfl) ?_
  simp only [List.take_succ_cons, List.take_zero, List.drop_succ_cons, List.drop_zero]
  repeat (go_big_quiet_step ((first | (go_at_call 126; exact bqs (ref05_Floor _ _ _ (by omega) (by omega) (by omega)) ⟨_, rfl⟩) | (go_at_call 191; exact bqs (ref05_Ceil _ _ _ (by omega) (by omega) (by omega)) ⟨_, rfl⟩))))
  refine wpQuiet_nil ?_
  rintro w' ⟨d, rfl⟩
  go_wp2
  exact bodyPost_ret (v := (.agg #[.int .i64 (linLo x0 x1 num den), .int .i64 (linHi y0 y1 num den)])) (by simp [results, Tryz.results211, go_sem, linLo, linHi]) rfl ⟨rfl, lay_ex _ _⟩

def ranB (num den : Int) : Bool := decide (1 ≤ den ∧ den ≤ 4194304 ∧ 0 ≤ num ∧ num ≤ den)
theorem ranB_iff {num den : Int} : ranB num den = true ↔ 1 ≤ den ∧ den ≤ 4194304 ∧ 0 ≤ num ∧ num ≤ den := by simp [ranB]
theorem linOk_of {x0 y0 x1 y1 num den : Int} (h1 : validB x0 y0 = true) (h2 : validB x1 y1 = true) (h3 : ranB num den = true) : LinOk x0 y0 x1 y1 num den := by
  have := validB_iff.1 h1; have := validB_iff.1 h2; have := ranB_iff.1 h3
  constructor <;> omega
end Go.Proofs.YtlkphcjlgbimkaaGreat

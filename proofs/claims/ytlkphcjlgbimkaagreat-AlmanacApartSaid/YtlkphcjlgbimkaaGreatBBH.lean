/- Contracts and plain laws, several texts in one: Mk3 -/
import Derived.Test.YtlkphcjlgbimkaaGreatProg
import Derived.WalkKit
import Derived.WalkSpells
import Derived.WalkLawsBesides
import Derived.Lib.Hide
import Derived.BigQuiet
import Derived.Test.YtlkphcjlgbimkaaGreatBAA
import Derived.Test.YtlkphcjlgbimkaaGreatBAB
import Derived.Test.YtlkphcjlgbimkaaGreatBAM
import Derived.Test.YtlkphcjlgbimkaaGreatBAO
import Derived.Test.YtlkphcjlgbimkaaGreatBBG
/- The law AlmanacMakes. -/
namespace Go.Proofs.YtlkphcjlgbimkaaGreat
open Go.RowKit Go.Shelf

theorem NewOk.few17 {lp : List PgV} {ls : List StarV} (k : NewOk lp ls) : Few lp := ⟨by have := k.few; omega, fun p hp => by have := (k.ok p hp).len; omega⟩
theorem tkL_len {lp : List PgV} (h : Few lp) : (tkL lp).length ≤ 1000000 := by
  have h1 := onceS_len ((nmsL lp).map ofB)
  rw [List.length_map] at h1
  have h2 := few_nms h
  unfold tkL; rw [List.length_map]; omega
theorem made_Bodies {w : World} {bk : Nat} {lp : List PgV} {ls : List StarV} {W : World} (h : BkA w bk lp ls W) (k : NewOk lp ls) : Hid (∀ L, Calls Tryz.prog 33 #[.pointer (some ⟨bk, 0, none⟩)] (lay W L) (StrOwn (lay W L) ([ariesS] ++ tkL lp ++ ls.map StarV.s))) := by
  obtain ⟨vd, vp, vs, h1, h2⟩ := h.open k
  exact Lib.hid (fun L => alm_Bodies bk vd vp vs ls (tkL lp) (lay W L) (h1.bk.lay L) (h2.lay L) (fun L' => alm_tracked bk vd vp vs lp _ ((h1.bk.lay L).lay L') ((h1.pgs.lay L).lay L') k.few17) (by have := (catB_iff.1 k.cat).len; omega) (tkL_len k.few17))
theorem made_Covers {w : World} {bk : Nat} {lp : List PgV} {ls : List StarV} {W : World} (h : BkA w bk lp ls W) (k : NewOk lp ls) : Hid (∀ a b L, Calls Tryz.prog 35 #[.pointer (some ⟨bk, 0, none⟩), (.agg #[.int .i64 (a), .int .i64 (b)])] (lay W L) fun e w' => e = .returned (.bool (covB lp a b)) ∧ ∃ d, w' = bw (lay W L) d) := by
  obtain ⟨vd, vp, vs, h1, h2⟩ := h.open k
  exact Lib.hid (fun a b L => alm_Covers bk vd vp vs lp a b (lay W L) (h1.lay L))
theorem BkA.openB {w : World} {bk : Nat} {lp : List PgV} {ls : List StarV} {W : World} (h : BkA w bk lp ls W) (k : NewOk lp ls) : ∃ vd vp vs, BkL (fun b => b < W.heap.size) W bk vd vp vs lp ∧ SlG stR W vs ls := by
  obtain ⟨vd, vp, vs, h1, h2⟩ := h.open k
  exact ⟨vd, vp, vs, ⟨h1.bk, h1.days, h1.pgs.bound.mono fun b hb => hb.2, h1.ord, h1.ok, h1.few⟩, h2⟩
theorem made_Pages {w : World} {bk : Nat} {lp : List PgV} {ls : List StarV} {W : World} (h : BkA w bk lp ls W) (k : NewOk lp ls) : Hid (∀ L, Calls Tryz.prog 38 #[.pointer (some ⟨bk, 0, none⟩)] (lay W L) (CpyPost (lay W L) lp)) := by
  obtain ⟨vd, vp, vs, h1, h2⟩ := h.openB k
  exact Lib.hid (fun L => alm_Pages bk vd vp vs lp (lay W L) (h1.lay L) (fun b hb => Nat.lt_of_lt_of_le hb (lay_extends W L).size))
theorem made_Stars {w : World} {bk : Nat} {lp : List PgV} {ls : List StarV} {W : World} (h : BkA w bk lp ls W) (k : NewOk lp ls) : Hid (∀ L, Calls Tryz.prog 41 #[.pointer (some ⟨bk, 0, none⟩)] (lay W L) (ClnPost stR (lay W L) ls)) := by
  obtain ⟨vd, vp, vs, h1, h2⟩ := h.open k
  exact Lib.hid (fun L => alm_Stars bk vd vp vs ls (lay W L) (h1.bk.lay L) (h2.lay L) (by have := (catB_iff.1 k.cat).len; omega))
set_option maxHeartbeats 4000000 in
set_option maxRecDepth 100000 in
theorem law17_Makes (vp : Value) (lp : List PgV) {w : World} (hp : PgsD (InB w) w vp lp) (vs : Value) (ls : List StarV) (hv : SlG stR w vs ls) (a b : Int) (_ : (Lit.int .i64 a).wf = true) (_ : (Lit.int .i64 b).wf = true) :
    Calls Tryz.prog 8 #[vp, vs, (.agg #[.int .i64 (a), .int .i64 (b)])] w fun e w' => e = .returned (.bool true) ∧ ∃ d, w' = bw w d := by
  have HAw := Lib.hid (fun W => law17_awake W)
  have HLa := Lib.hid (fun L => law17_large vp vs lp ls (lay w L) (hp.lay L) (hv.lay L))
  have HMn := Lib.hid (fun L h => law17_made_no vp vs lp ls (lay w L) (hp.lay L) (inB_lay L) (hv.lay L) h)
  have HMy := Lib.hid (fun L h => law17_made_yes vp vs lp ls (lay w L) (hp.lay L) (inB_lay L) (hv.lay L) h)
  have HBd := Lib.hid (fun k => (rfL_of hp hv k).bodies)
  have HCv := Lib.hid (fun (k : NewOk lp ls) L => ref17_Covers vp vs lp a b (lay w L) (hp.lay L) k.ok k.ord k.few)
  have HPg := Lib.hid (fun A B L (hA : PgsD A (lay w L) B lp) => pgs_EqualFunc B vp lp (lay w L) hA (hp.lay L))
  have HSt := Lib.hid (fun B L (hB : SlG stR (lay w L) B ls) => st_Equal B vs ls (lay w L) hB (hv.lay L))
  obtain ⟨pa, pc, rfl⟩ := pgs_form hp
  obtain ⟨sa, sc, rfl⟩ := hv.form
  obtain ⟨m, hm⟩ : ∃ m, ls.length = m := ⟨_, rfl⟩
  obtain ⟨n, hn⟩ : ∃ n, lp.length = n := ⟨_, rfl⟩
  rw [hm] at HLa HMn HMy HBd HCv HSt ⊢
  rw [hn] at HLa HMn HMy HBd HCv HPg ⊢
  clear hp hv hm hn
  refine lay_start ?_
  go_enter Tryz.func8, Tryz.ntmps8
  go_wp2_with (first | (go_at_call 11; refine (HAw.out _).mono ?_; rintro e w' ⟨rfl, d1, rfl⟩))
  refine (HLa.out _).mono ?_
  rintro e w' ⟨r, rfl, d2, rfl⟩
  rw [lay_bw]
  cases r
  · go_wp2_with fail
    by_cases hE : newE lp ls = 0
    · have hk := newE_0 hE
      refine (HMy.out _ hE).mono ?_
      rintro e w' ⟨bk, d3, rfl, rfl, hB⟩
      have HB := made_Bodies hB hk
      have HC := made_Covers hB hk
      have HP := made_Pages hB hk
      have HS := made_Stars hB hk
      have HBd2 := HBd.out hk
      have HCv2 := Lib.hid (HCv.out hk)
      have HC2 := Lib.hid (HC.out a b)
      clear hB hk HBd HCv HC hE HMy HMn HLa HAw
      rw [lay_bw] at HB HC2 HP HS ⊢
      simp only [← lay_appG] at HB HC2 HP HS
      generalize [ariesS] ++ tkL lp ++ ls.map StarV.s = T at *
      generalize covB lp a b = cv at *
      go_wp2_with fail
      refine region_mixP [(0, 0), (2, 0), (1, 1), (3, 1), (4, 1), (5, 0), (6, 0), (7, 0), (9, 0), (10, 0), (8, 0), (11, 0), (12, 0), (13, 0), (14, 0), (15, 0), (17, 0), (16, 1), (18, 1), (19, 0), (20, 0), (21, 0), (23, 0), (22, 1), (24, 1)] (by kernel_rfl) (by kernel_rfl) (by kernel_rfl) (by kernel_rfl) (by decide) (by kernel_rfl) ?_
      simp only [List.drop_succ_cons, List.drop_zero, List.length_cons, List.length_nil, Nat.reduceAdd]
      iterate 2 (refine wpMP_quiet rfl (fun K hK => ?_); go_simp; refine hK _ ?_; clear hK K)
      refine wpMP_special rfl (fun K hK e1 => ?_)
      go_simp
      refine (HB.out [_, _]).mono ?_
      rintro e w' ⟨w1, f1, rfl, rfl, hO⟩
      rw [lay_bw] at hO
      obtain ⟨wa1, wc1, rfl⟩ := hO.form
      have H1 := Lib.hid (hO.sl strOk)
      clear hO
      refine ⟨_, rfl, ?_⟩
      go_simp
      refine hK _ _ (lay_in w [_, _] _) ?_
      clear hK K
      refine wpMP_special rfl (fun K hK e2 => ?_)
      go_simp
      refine (HBd2.out _).mono ?_
      rintro e w' ⟨w2, f2, rfl, rfl, hO⟩
      rw [lay_bw] at hO
      obtain ⟨wa2, wc2, rfl⟩ := hO.form
      have H2 := Lib.hid (hO.sl strOk)
      clear hO
      refine ⟨_, rfl, ?_⟩
      go_simp
      refine hK _ _ (lay_in w [_, _, _, _] _) ?_
      clear hK K
      refine wpMP_special rfl (fun K hK e3 => ?_)
      go_simp
      refine (str_Equal _ _ T T _ (slG_on (A := [_, _, _]) H1.out) (slG_on (A := [_]) H2.out)).mono ?_
      rintro e w' ⟨rfl, f3, rfl⟩
      rw [decide_eq_true rfl]
      refine ⟨_, rfl, ?_⟩
      go_simp
      refine hK _ _ (lay_in w [_, _, _, _, _, _] _) ?_
      clear hK K
      refine wpMP_quiet rfl (fun K hK => ?_); go_simp; refine hK _ ?_; clear hK K
      refine wpMP_quiet rfl (fun K hK => ?_); go_simp; refine hK _ ?_; clear hK K
      refine wpMP_quiet rfl (fun K hK => ?_); go_simp; refine hK _ ?_; clear hK K
      refine wpMP_quiet rfl (fun K hK => ?_); go_simp; refine hK _ ?_; clear hK K
      refine wpMP_quiet rfl (fun K hK => ?_); go_simp; refine hK _ ?_; clear hK K
      refine wpMP_quiet rfl (fun K hK => ?_)
      go_simp
      apply Exists.intro
      refine ⟨fun _ => ?_, hK _ ?_⟩
      · exact bq (HC2.out [_, _]) (fun d => ⟨d, rfl⟩)
      clear hK K
      refine wpMP_quiet rfl (fun K hK => ?_)
      go_simp
      apply Exists.intro
      refine ⟨fun _ => ?_, hK _ ?_⟩
      · exact bq (HCv2.out _) (fun d => ⟨d, rfl⟩)
      clear hK K
      refine wpMP_quiet rfl (fun K hK => ?_); go_simp; refine hK _ ?_; clear hK K
      refine wpMP_quiet rfl (fun K hK => ?_); go_simp; refine hK _ ?_; clear hK K
      refine wpMP_quiet rfl (fun K hK => ?_); go_simp; refine hK _ ?_; clear hK K
      refine wpMP_quiet rfl (fun K hK => ?_); go_simp; refine hK _ ?_; clear hK K
      refine wpMP_quiet rfl (fun K hK => ?_); go_simp; refine hK _ ?_; clear hK K
      refine wpMP_special rfl (fun K hK e4 => ?_)
      go_simp
      refine (HP.out [_, _, _, _, _, _, _, _]).mono ?_
      rintro e w' ⟨wa3, wc3, f4, rfl, rfl, hA⟩
      rw [lay_bw] at hA
      have H3 := Lib.hid hA
      clear hA
      refine ⟨_, rfl, ?_⟩
      go_simp
      refine hK _ _ (lay_in w [_, _, _, _, _, _, _, _] _) ?_
      clear hK K
      refine wpMP_special rfl (fun K hK e5 => ?_)
      go_simp
      refine (HPg.out _ _ _ (H3.out.lay_on (A := [.inr e5]))).mono ?_
      rintro e w' ⟨rfl, f5, rfl⟩
      refine ⟨_, rfl, ?_⟩
      go_simp
      refine hK _ _ (lay_in w [_, _, _, _, _, _, _, _, _, _] _) ?_
      clear hK K
      refine wpMP_quiet rfl (fun K hK => ?_); go_simp; refine hK _ ?_; clear hK K
      refine wpMP_quiet rfl (fun K hK => ?_); go_simp; refine hK _ ?_; clear hK K
      refine wpMP_quiet rfl (fun K hK => ?_); go_simp; refine hK _ ?_; clear hK K
      refine wpMP_quiet rfl (fun K hK => ?_); go_simp; refine hK _ ?_; clear hK K
      refine wpMP_special rfl (fun K hK e6 => ?_)
      go_simp
      refine (HS.out [_, _, _, _, _, _, _, _, _, _, _, _]).mono ?_
      rintro e w' ⟨w4, f6, rfl, rfl, hO⟩
      rw [lay_bw] at hO
      obtain ⟨wa4, wc4, rfl⟩ := hO.form
      have H4 := Lib.hid (hO.sl stOk)
      clear hO
      refine ⟨_, rfl, ?_⟩
      go_simp
      refine hK _ _ (lay_in w [_, _, _, _, _, _, _, _, _, _, _, _] _) ?_
      clear hK K
      refine wpMP_special rfl (fun K hK e7 => ?_)
      go_simp
      refine (HSt.out _ _ (slG_on (A := [.inr e7]) H4.out)).mono ?_
      rintro e w' ⟨rfl, f7, rfl⟩
      refine ⟨_, rfl, ?_⟩
      go_simp
      refine hK _ _ (lay_in w [_, _, _, _, _, _, _, _, _, _, _, _, _, _] _) ?_
      clear hK K
      refine wpMP_nil ?_
      intro e8
      rw [lay_bw]
      go_wp2_with fail
      go_ret
      exact ⟨rfl, lay_ex _ _⟩
    · refine (HMn.out _ hE).mono ?_
      rintro e w' ⟨rfl, d3, rfl⟩
      go_wp2_with fail
      go_ret
      exact ⟨rfl, lay_ex _ _⟩
  · go_wp2_with fail
    go_ret
    exact ⟨rfl, lay_ex _ _⟩
end Go.Proofs.YtlkphcjlgbimkaaGreat

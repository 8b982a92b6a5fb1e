/- Contracts and plain laws, several texts in one: FeP; FgS; FgA -/
import Derived.Test.YtkhhdpndcidmgaaGreatProg
import Derived.WalkKit
import Derived.WalkSpells
import Derived.WalkLawsBesides
import Derived.Lib.Hide
import Derived.BigQuiet
import Derived.Test.YtkhhdpndcidmgaaGreatTAE
import Derived.Test.YtkhhdpndcidmgaaGreatTAF
import Derived.Test.YtkhhdpndcidmgaaGreatTAI
import Derived.Test.YtkhhdpndcidmgaaGreatTBG
import Derived.Test.YtkhhdpndcidmgaaGreatTBP
import Derived.Test.YtkhhdpndcidmgaaGreatTBW
import Derived.Test.YtkhhdpndcidmgaaGreatTBX
/- Values of the chapter's examples: the sine of 60 degrees, an altitude of 0, the bearings. -/
namespace Go.Proofs.YtkhhdpndcidmgaaGreat
open Go.RowKit

theorem sinQ60 : sinQ 3600000 = 929887696 := by
  have e : sinQ 3600000 = octC (5400000 - 3600000) := by unfold sinQ; rw [if_neg (by decide), if_neg (by decide), if_neg (by decide), if_neg (by decide)]
  rw [e]
  exact (oct_of rot_1800000).2.trans (by decide +kernel)
theorem b60 : bLo 3600000 = 929887696 ∧ bHi 3600000 = 929887697 := by
  have e : foldT 3600000 = 3600000 := by decide +kernel
  have s : souB 3600000 = false := by decide +kernel
  have o : oneQ 3600000 = 1 := by decide +kernel
  unfold bLo bHi
  rw [e, s, sinQ60, o]
  exact ⟨rfl, rfl⟩
theorem b120 : bLo 7200000 = 929887696 ∧ bHi 7200000 = 929887697 := by
  have e : foldT 7200000 = 3600000 := by decide +kernel
  have s : souB 7200000 = false := by decide +kernel
  have o : oneQ 3600000 = 1 := by decide +kernel
  unfold bLo bHi
  rw [e, s, sinQ60, o]
  exact ⟨rfl, rfl⟩
theorem sI60 : sI 3600000 3600000 = (929887696, 929887697) := by
  have m1 : metB 3600000 3600000 16200000 = false := by decide +kernel
  have m2 : metB 3600000 3600000 5400000 = false := by decide +kernel
  unfold sI encL encH
  rw [m1, m2, b60.1, b60.2]
  rfl
theorem cI30 : cI 1800000 1800000 = (929887696, 929887697) := by
  have m1 : metB 7200000 7200000 16200000 = false := by decide +kernel
  have m2 : metB 7200000 7200000 5400000 = false := by decide +kernel
  unfold cI cosL cosH
  show (encL 7200000 7200000, encH 7200000 7200000) = _
  unfold encL encH
  rw [m1, m2, b120.1, b120.2]
  rfl
theorem sI0 : sI 0 0 = (0, 0) := by decide +kernel
theorem cI0 : cI 0 0 = (1073741824, 1073741824) := by decide +kernel
theorem sI30 : sI 1800000 1800000 = (536870912, 536870912) := by decide +kernel
theorem sI270 : sI 16200000 16200000 = (-1073741824, -1073741824) := by decide +kernel
theorem cI270 : cI 16200000 16200000 = (0, 0) := by decide +kernel
theorem mL_zero (p : Int × Int) : mL p (0, 0) = (0, 0) := by
  unfold mL mulL mulH m4 x4
  simp [mn, mx]
theorem pa_eg : paF 0 0 0 0 3600000 3600000 = (5400000, 5400000) := by
  have hx : paX 0 0 0 0 3600000 3600000 = (0, 0) := by
    unfold paX
    rw [sI0, mL_zero]
    have : mL (0, 0) (cI 0 0) = (0, 0) := by rw [cI0]; decide +kernel
    rw [this]
    rfl
  have hy : paY 0 0 3600000 3600000 = (929887696, 929887697) := by
    unfold paY
    rw [cI0, sI60]
    decide +kernel
  unfold paF
  rw [hx, hy]
  decide +kernel
theorem az_eg : azF 0 0 1800000 1800000 16200000 16200000 = (3599999, 3600001) := by
  have hx : azX 0 0 1800000 1800000 16200000 16200000 = (536870912, 536870912) := by
    unfold azX
    rw [sI0, mL_zero, sI30, cI0]
    decide +kernel
  have hy : azY 1800000 1800000 16200000 16200000 = (929887696, 929887697) := by
    unfold azY
    rw [cI30, sI270]
    decide +kernel
  unfold azF
  rw [hx, hy]
  decide +kernel
theorem asn0 : asnI 0 = 0 := by
  have h1 := asnI_ge (v := 0) (n := 0) (by decide) (by decide) (by decide +kernel)
  have h2 := asnI_lt (v := 0) (n := 1) (by decide) (by decide) (by rw [b_1]; decide)
  omega
theorem al_eg : alL 0 0 1800000 1800000 16200000 16200000 = 0 ∧ alH 0 0 1800000 1800000 16200000 16200000 = 0 := by
  have s0 : altS0 0 0 1800000 1800000 16200000 16200000 = 0 ∧ altS1 0 0 1800000 1800000 16200000 16200000 = 0 := by
    have h1 := congrArg Prod.fst sI0
    have h2 := congrArg Prod.snd sI0
    have h3 := congrArg Prod.fst cI270
    have h4 := congrArg Prod.snd cI270
    have k1 : encL 0 0 = 0 := h1
    have k2 : encH 0 0 = 0 := h2
    have k3 : cosL 16200000 16200000 = 0 := h3
    have k4 : cosH 16200000 16200000 = 0 := h4
    have z1 : ∀ a b, mulL 0 0 a b = 0 ∧ mulH 0 0 a b = 0 := fun a b => by unfold mulL mulH m4 x4; simp [mn, mx]
    have z2 : ∀ a b, mulL a b 0 0 = 0 ∧ mulH a b 0 0 = 0 := fun a b => by unfold mulL mulH m4 x4; simp [mn, mx]
    unfold altS0 altS1 ssL ssH c3L c3H
    rw [k1, k2, k3, k4, (z1 _ _).1, (z1 _ _).2, (z2 _ _).1, (z2 _ _).2]
    exact ⟨rfl, rfl⟩
  have e0 : asE 0 0 = 0 := by rw [asE_at]; decide +kernel
  unfold alL alH asL asH
  rw [s0.1, s0.2, if_pos e0, if_pos e0]
  have m1 : mx 0 (-1073741824) = 0 := by decide
  have m2 : mn 0 1073741824 = 0 := by decide
  rw [m1, m2]
  simp [asn0]
end Go.Proofs.YtkhhdpndcidmgaaGreat
/- The example's book of one star: its candidates, its sky. -/
namespace Go.Proofs.YtkhhdpndcidmgaaGreat
set_option maxHeartbeats 4000000
set_option maxRecDepth 100000
open Go.RowKit Go.Shelf

theorem eg_candidates (bk : Nat) (vd vs : Value) (W : World) (hB : Bk W bk vd (.slice none 0 0) vs) (hS : SlG stR W vs [vegaV]) (L : List (Obj ⊕ Ext)) :
    Calls Tryz.prog 69 #[.pointer (some ⟨bk, 0, none⟩), (.agg #[.int .i64 (0), .int .i64 (0)]), (.agg #[.int .i64 (0), .int .i64 (0), .int .i64 (0), .int .i64 (0)])] (lay W L) fun e w' => ∃ z : SeenV, z.s = vegaS ∧ -5400000 ≤ z.h1 ∧ RowE seenR (lay W L) [z] e w' := by
  have HW : Hid (∀ L', Calls Tryz.prog _ _ (lay (lay W L) L') fun e w' => e = .returned (.tuple #[(.agg #[.int .i64 (sgL 0 0 48000), .int .i64 (sgH 0 0 48000), .int .i64 (dcL 0), .int .i64 (dcH 0), .int .i64 (0), .int .i64 (0), .int .i64 (0), .int .i64 (0)]), .int .i64 0]) ∧ ∃ d, w' = bw _ d) :=
    Lib.hid (fun L' => alm_Where_star bk _ _ vs [vegaV] 0 vegaV vegaS 0 0 (lay (lay W L) L') ((hB.lay L).lay L') ((hS.lay L).lay L') rfl vega_find (by rw [vega_list]; rfl) (by decide) (by decide) (by decide) (by decide) (by decide) (by decide))
  rw [eg_sg.1, eg_sg.2] at HW
  have HBo : Hid (∀ L', Calls Tryz.prog _ _ (lay (lay W L) L') (StrOwn _ [ariesS, vegaS])) :=
    Lib.hid (fun L' => alm_Bodies bk _ _ vs [vegaV] [] (lay (lay W L) L') ((hB.lay L).lay L') ((hS.lay L).lay L') (fun L2 => tracked_nil_post bk _ vs _ (((hB.lay L).lay L').lay L2)) (by decide) (by decide))
  have HAd : Hid (∀ W', Calls Tryz.prog _ _ W' fun e w' => e = .returned (.tuple #[(.agg #[.int .i64 (10798017), .int .i64 (10798118)]), .int .i64 0]) ∧ ∃ d, w' = bw W' d) := Lib.hid (fun W' => angle_Add 10798017 10798118 0 0 W' (by decide) (by decide) (by decide))
  have hT : triB 0 0 (dcL 0) (dcH 0) 10798017 10798118 = true := by decide
  have HSo := Lib.hid (fun W' => cos_Solve 0 0 (dcL 0) (dcH 0) 10798017 10798118 W' hT)
  have hal := (al_bd hT).2
  have hA1 : (ariesS.toList == [65, 114, 105, 101, 115]) = true := by rw [aries_list]; rfl
  have hA2 : (vegaS.toList == [65, 114, 105, 101, 115]) = false := by rw [vega_list]; rfl
  have hz : vegaS.size ≤ 9223372036854775807 := by decide
  clear hB hS hT
  generalize alL 0 0 (dcL 0) (dcH 0) 10798017 10798118 = q1 at *
  generalize alH 0 0 (dcL 0) (dcH 0) 10798017 10798118 = q2 at *
  generalize (azF 0 0 (dcL 0) (dcH 0) 10798017 10798118).1 = q3 at *
  generalize (azF 0 0 (dcL 0) (dcH 0) 10798017 10798118).2 = q4 at *
  generalize dcL 0 = g3 at *
  generalize dcH 0 = g4 at *
  have hq : -5400000 ≤ q2 := by omega
  have HQ := Lib.hid hq
  clear hal hq
  generalize lay W L = w at *
  generalize vegaS = s2 at *
  generalize ariesS = s1 at *
  refine lay_start ?_
  go_enter Tryz.func69, Tryz.ntmps69
  go_wp2_with fail
  refine (HBo.out _).mono ?_
  rintro e w' ⟨vn, dN, rfl, rfl, hN⟩
  rw [lay_bw] at hN ⊢
  obtain ⟨g, c, rfl, -, hgs, -⟩ := hN.form1 (Nat.succ_pos _)
  have c1 : (lay w [.inr dN, .inl (.cells #[.int .i64 0, .int .i64 0, .int .i64 0, .int .i64 0] 45 (0, 0)), .inl (.cells #[.int .i64 0, .int .i64 0] 43 (0, 0))]).cell? ⟨g, 0, none⟩ = some (.string s1) := by simpa [strR] using hN.cell strOk (i := 0) (x := s1) rfl (j := 0) (u := .string s1) rfl
  have c2 : (lay w [.inr dN, .inl (.cells #[.int .i64 0, .int .i64 0, .int .i64 0, .int .i64 0] 45 (0, 0)), .inl (.cells #[.int .i64 0, .int .i64 0] 43 (0, 0))]).cell? ⟨g, 1, none⟩ = some (.string s2) := by simpa [strR] using hN.cell strOk (i := 1) (x := s2) rfl (j := 0) (u := .string s2) rfl
  have eL : [s1, s2].length = 2 := rfl
  rw [eL]
  clear hN
  go_wp2_with fail
  refine wp_loop_rounds 3 ?_
  rw [rounds_succ]
  go_wp2_with fail
  rw [rounds_succ]
  go_wp2_with fail
  refine (HW.out _).mono ?_
  rintro e w' ⟨rfl, d1, rfl⟩
  rw [lay_bw]
  go_wp2_with fail
  refine (HAd.out _).mono ?_
  rintro e w' ⟨rfl, d2, rfl⟩
  rw [lay_bw]
  go_wp2_with fail
  refine (HSo.out _).mono ?_
  rintro e w' ⟨rfl, d3, rfl⟩
  rw [lay_bw]
  go_wp2_with (at_builtin; refine push_rec seenOk rfl _ _ rfl (lay w [.inr dN, .inl (.cells #[.int .i64 0, .int .i64 0, .int .i64 0, .int .i64 0] 45 (0, 0)), .inl (.cells #[.int .i64 0, .int .i64 0] 43 (0, 0))]) _ ⟨s2, q1, q2, q3, q4⟩ #[.string s2, .int .i64 q1, .int .i64 q2, .int .i64 q3, .int .i64 q4] 68 _ _ [] (lay_belowG (A := [_, _, _, _, _, _, _])) (OwG.nil _ _ _) (lay_get w _ 0 _ rfl) rfl rfl rfl (by decide) hz ?_; intro v' d' hv')
  have HV := Lib.hid hv'
  clear hv'
  go_wp2_with fail
  rw [rounds_succ]
  go_wp2_with fail
  obtain ⟨zz, hz⟩ := lay_ex w [.inr d', .inr dN, .inl (.cells #[.int .i64 0, .int .i64 0, .int .i64 0, .int .i64 0] 45 (0, 0)), .inl (.cells #[.int .i64 0, .int .i64 0] 43 (0, 0))]
  have h := HV.out
  rw [lay_bw, hz] at h
  exact bodyPost_ret (v := .tuple #[_, .int .i64 0]) (by simp [results, Tryz.results69, go_sem]) rfl ⟨⟨s2, q1, q2, q3, q4⟩, rfl, HQ.out, _, zz, rfl, hz, h.le (lay_extends w _).size⟩
theorem eg_Sky (bk : Nat) (vd vs : Value) (W : World) (hB : Bk W bk vd (.slice none 0 0) vs) (hS : SlG stR W vs [vegaV]) (L : List (Obj ⊕ Ext)) :
    Calls Tryz.prog 24 #[.pointer (some ⟨bk, 0, none⟩), (.agg #[.int .i64 (0), .int .i64 (0)]), (.agg #[.int .i64 (0), .int .i64 (0), .int .i64 (0), .int .i64 (0)]), .int .i64 (-5400000)] (lay W L) fun e w' => ∃ z : SeenV, z.s = vegaS ∧ RowE seenR (lay W L) [z] e w' := by
  have HG := Lib.hid (fun W' => fn_given bk 0 0 0 0 0 0 W' (by decide) (by decide))
  have HC := Lib.hid (fun L' => eg_candidates bk vd vs (lay W L) (hB.lay L) (hS.lay L) L')
  have hz : vegaS.size ≤ 9223372036854775807 := by decide
  clear hB hS
  generalize lay W L = w at *
  generalize vegaS = s2 at *
  refine lay_start ?_
  go_enter Tryz.func24, Tryz.ntmps24
  go_wp2_with (go_at_call 68; refine (HG.out _).mono ?_; rintro e w' ⟨rfl, dg, rfl⟩; rw [lay_bw])
  refine (HC.out _).mono ?_
  rintro e w' ⟨⟨s, p1, p2, p3, p4⟩, rfl, hq, vc, dc, rfl, rfl, hN⟩
  dsimp only at hq hz
  rw [lay_bw] at hN ⊢
  obtain ⟨g, c, rfl, -, hgs, -⟩ := hN.form1 (Nat.succ_pos _)
  have c0 : (lay w [.inr dc, .inr dg, .inl (.cells #[.int .i64 0, .int .i64 0, .int .i64 0, .int .i64 0] 45 (0, 0)), .inl (.cells #[.int .i64 0, .int .i64 0] 43 (0, 0))]).cell? ⟨g, 0, none⟩ = some (.string s) := by simpa [seenR] using hN.cell seenOk (i := 0) rfl (j := 0) (u := .string s) rfl
  have c1 : (lay w [.inr dc, .inr dg, .inl (.cells #[.int .i64 0, .int .i64 0, .int .i64 0, .int .i64 0] 45 (0, 0)), .inl (.cells #[.int .i64 0, .int .i64 0] 43 (0, 0))]).cell? ⟨g, 1, none⟩ = some (.int .i64 p1) := by simpa [seenR] using hN.cell seenOk (i := 0) rfl (j := 1) (u := .int .i64 p1) rfl
  have c2 : (lay w [.inr dc, .inr dg, .inl (.cells #[.int .i64 0, .int .i64 0, .int .i64 0, .int .i64 0] 45 (0, 0)), .inl (.cells #[.int .i64 0, .int .i64 0] 43 (0, 0))]).cell? ⟨g, 2, none⟩ = some (.int .i64 p2) := by simpa [seenR] using hN.cell seenOk (i := 0) rfl (j := 2) (u := .int .i64 p2) rfl
  have c3 : (lay w [.inr dc, .inr dg, .inl (.cells #[.int .i64 0, .int .i64 0, .int .i64 0, .int .i64 0] 45 (0, 0)), .inl (.cells #[.int .i64 0, .int .i64 0] 43 (0, 0))]).cell? ⟨g, 3, none⟩ = some (.int .i64 p3) := by simpa [seenR] using hN.cell seenOk (i := 0) rfl (j := 3) (u := .int .i64 p3) rfl
  have c4 : (lay w [.inr dc, .inr dg, .inl (.cells #[.int .i64 0, .int .i64 0, .int .i64 0, .int .i64 0] 45 (0, 0)), .inl (.cells #[.int .i64 0, .int .i64 0] 43 (0, 0))]).cell? ⟨g, 4, none⟩ = some (.int .i64 p4) := by simpa [seenR] using hN.cell seenOk (i := 0) rfl (j := 4) (u := .int .i64 p4) rfl
  have eL : [(⟨s, p1, p2, p3, p4⟩ : SeenV)].length = 1 := rfl
  rw [eL]
  clear hN HG HC
  go_wp2_with fail
  refine wp_loop_rounds 2 ?_
  rw [rounds_succ]
  go_wp2_with (at_builtin; refine push_rec seenOk rfl _ _ rfl (lay w [.inr dc, .inr dg, .inl (.cells #[.int .i64 0, .int .i64 0, .int .i64 0, .int .i64 0] 45 (0, 0)), .inl (.cells #[.int .i64 0, .int .i64 0] 43 (0, 0))]) _ ⟨s, p1, p2, p3, p4⟩ #[.string s, .int .i64 p1, .int .i64 p2, .int .i64 p3, .int .i64 p4] 68 _ _ [] (lay_belowG (A := [_, _])) (OwG.nil _ _ _) (lay_get w _ 0 _ rfl) rfl rfl rfl (by decide) hz ?_; intro v' d' hv')
  have HV := Lib.hid hv'
  clear hv'
  go_wp2_with fail
  rw [rounds_succ]
  go_wp2_with fail
  obtain ⟨zz, hz⟩ := lay_ex w [.inr d', .inr dc, .inr dg, .inl (.cells #[.int .i64 0, .int .i64 0, .int .i64 0, .int .i64 0] 45 (0, 0)), .inl (.cells #[.int .i64 0, .int .i64 0] 43 (0, 0))]
  have h := HV.out
  rw [lay_bw, hz] at h
  exact bodyPost_ret (v := .tuple #[_, .int .i64 0]) (by simp [results, Tryz.results24, go_sem]) rfl ⟨⟨s, p1, p2, p3, p4⟩, rfl, _, zz, rfl, hz, h.le (lay_extends w _).size⟩
end Go.Proofs.YtkhhdpndcidmgaaGreat
/- The example of chapter 51 (awake). -/
namespace Go.Proofs.YtkhhdpndcidmgaaGreat
open Go.RowKit Go.Shelf

theorem law51_point (n : Int) (w : World) : Calls Tryz.prog 23 #[.int .i64 n] w fun e w' => e = .returned (.agg #[.int .i64 (n), .int .i64 (n)]) ∧ ∃ d, w' = bw w d := by
  refine lay_start ?_
  go_enter Tryz.func23, Tryz.ntmps23
  go_wp2
  exact bodyPost_ret (v := (.agg #[.int .i64 (n), .int .i64 (n)])) (by simp [results, Tryz.results23, go_sem]) rfl ⟨rfl, lay_ex _ _⟩
theorem eg_Parallactic (w : World) : Calls Tryz.prog 7 #[(.agg #[.int .i64 (0), .int .i64 (0), .int .i64 (0), .int .i64 (0), .int .i64 (3600000), .int .i64 (3600000)])] w fun e w' => e = .returned (.tuple #[(.agg #[.int .i64 (5400000), .int .i64 (5400000)]), .int .i64 0]) ∧ ∃ d, w' = bw w d := by
  have := fn_Parallactic 0 0 0 0 3600000 3600000 w (by decide)
  rw [pa_eg] at this
  exact this
theorem eg_Unknown (w : World) : Calls Tryz.prog 21 #[(.agg #[.int .i64 (0), .int .i64 (0)]), (.agg #[.int .i64 (1800000), .int .i64 (1800000)]), (.agg #[.int .i64 (16200000), .int .i64 (16200000)]), (.agg #[.int .i64 (1200000), .int .i64 (1200000)]), (.agg #[.int .i64 (0), .int .i64 (0)])] w fun e w' => e = .returned (.tuple #[(.agg #[.int .i64 (2399999), .int .i64 (2400001)]), (.agg #[.int .i64 (0), .int .i64 (0)]), .int .i64 0]) ∧ ∃ d, w' = bw w d := by
  have := fn_Unknown 0 0 1800000 1800000 16200000 16200000 1200000 1200000 0 0 3599999 3600001 3599999 3600001 2399999 2400001 w (by decide) (by decide) (by decide) az_eg (by decide) (by decide)
  rw [al_eg.1, al_eg.2, show turnLo 2399999 2400001 = 2399999 by decide, show turnHi 2399999 2400001 = 2400001 by decide] at this
  exact this
set_option maxHeartbeats 4000000 in
set_option maxRecDepth 100000 in
theorem law51_awake (w : World) : Calls Tryz.prog 5 #[] w fun e w' => e = .returned (.bool true) ∧ ∃ d, w' = bw w d := by
  have HP := Lib.hid (fun n W => law51_point n W)
  have HA := Lib.hid (fun W => eg_Parallactic W)
  have HU := Lib.hid (fun W => eg_Unknown W)
  refine lay_start ?_
  go_enter Tryz.func5, Tryz.ntmps5
  go_wp2_with fail
  refine (HP.out _ _).mono ?_
  rintro e w' ⟨rfl, p1, rfl⟩
  rw [lay_bw]
  go_wp2_with fail
  refine (HA.out _).mono ?_
  rintro e w' ⟨rfl, dA, rfl⟩
  rw [lay_bw]
  go_wp2_with fail
  refine (HP.out _ _).mono ?_
  rintro e w' ⟨rfl, p2, rfl⟩
  rw [lay_bw]
  go_wp2_with fail
  refine (HP.out _ _).mono ?_
  rintro e w' ⟨rfl, p3, rfl⟩
  rw [lay_bw]
  go_wp2_with fail
  refine (HP.out _ _).mono ?_
  rintro e w' ⟨rfl, p4, rfl⟩
  rw [lay_bw]
  go_wp2_with fail
  refine (HP.out _ _).mono ?_
  rintro e w' ⟨rfl, p5, rfl⟩
  rw [lay_bw]
  go_wp2_with fail
  refine (HP.out _ _).mono ?_
  rintro e w' ⟨rfl, p6, rfl⟩
  rw [lay_bw]
  go_wp2_with fail
  refine (HU.out _).mono ?_
  rintro e w' ⟨rfl, dU, rfl⟩
  rw [lay_bw]
  go_wp2_with fail
  refine (alm_New_nil3 _ [vegaV] _ (vega_lit w [.inl (.cells #[.int .i64 0, .int .i64 0] 23 (0, 0)), .inl (.cells #[.int .i64 2399999, .int .i64 2400001] 23 (0, 0)), .inr dU, .inr p6, .inr p5, .inr p4, .inr p3, .inr p2, .inl (.cells #[.int .i64 5400000, .int .i64 5400000] 23 (0, 0)), .inr dA, .inr p1]) vega_cat vega_notA).mono ?_
  rintro e w' ⟨bk, vs, d1, rfl, rfl, hB, hS⟩
  rw [lay_bw] at hB hS ⊢
  have HS := Lib.hid (fun L => eg_Sky bk _ vs _ hB hS L)
  simp only [← lay_appG] at HS
  clear hB hS
  go_wp2_with fail
  refine region_bw (by kernel_rfl) (by kernel_rfl) ?_
  repeat (go_big_quiet_step ((first | (go_at_call 23; first | exact bq (HP.out _ _) (fun d => ⟨d, rfl⟩) | exact bq (HP.out _ _) (fun d => lay_join _ _ _ d)))))
  refine wpQuiet_nil ?_
  rintro w' ⟨d, rfl⟩
  rw [lay_bw]
  go_wp2_with fail
  refine (HS.out [_]).mono ?_
  rintro e w' ⟨z, hz, v2, d2, rfl, rfl, hO⟩
  rw [lay_bw] at hO ⊢
  simp only [List.cons_append, List.nil_append] at hO ⊢
  obtain ⟨g, c, rfl, -, -, -⟩ := hO.form1 (by simp)
  have hc := hO.cell seenOk (i := 0) (x := z) rfl (j := 0) (u := .string z.s) rfl
  rw [hz] at hc
  have e0 : 0 * seenR.k + 0 = 0 := by simp
  rw [e0] at hc
  simp only [List.length_cons, List.length_nil, Nat.zero_add]
  go_wp2_with fail
  go_ret
  exact ⟨by simp [vega_list], lay_ex _ _⟩
end Go.Proofs.YtkhhdpndcidmgaaGreat

/- Contracts and plain laws, several texts in one: Lmi -/
import Derived.Test.YtlkphcjlgbimkaaGreatProg
import Derived.WalkKit
import Derived.WalkSpells
import Derived.WalkLawsBesides
import Derived.Lib.Hide
import Derived.BigQuiet
import Derived.Test.YtlkphcjlgbimkaaGreatBAA
import Derived.Test.YtlkphcjlgbimkaaGreatBAB
import Derived.Test.YtlkphcjlgbimkaaGreatBBD
import Derived.Test.YtlkphcjlgbimkaaGreatBBE
/- The law AlmanacMidnight. -/
namespace Go.Proofs.YtlkphcjlgbimkaaGreat
open Go.RowKit Go.Shelf

set_option maxHeartbeats 1000000 in
theorem ref10_At (y m d : Int) (w : World) (hd : dateB y m d = true) (h0 : -300000 ≤ numI y m d) (h1 : numI y m d ≤ 300000) :
    Calls Tryz.prog 23 #[.agg #[.int .i64 y, .int .i64 m, .int .i64 d], .int .i64 0] w fun e w' => e = .returned (.tuple #[.int .i64 (numI y m d * 86400000), .int .i64 0]) ∧ ∃ d, w' = bw w d := by
  have HV := Lib.hid (fun W => ref09_Valid y m d W)
  rw [hd] at HV
  have HN := Lib.hid (fun W => ref09_Number y m d W hd)
  have HI := Lib.hid (fun W => ref10_Instant (numI y m d * 86400000) W)
  have hi : insB (numI y m d * 86400000) = true := decide_eq_true (by omega)
  rw [hi] at HI
  generalize numI y m d = n at *
  clear hd hi
  refine lay_start ?_
  go_enter Tryz.func23, Tryz.ntmps23
  go_wp2_with (first | (go_at_call 81; refine (HV.out _).mono ?_; rintro e w' ⟨rfl, d1, rfl⟩) | (go_at_call 83; refine (HN.out _).mono ?_; rintro e w' ⟨rfl, d2, rfl⟩) | (go_at_call 80; refine (HI.out _).mono ?_; rintro e w' ⟨rfl, hw⟩; subst hw))
  all_goals exact bodyPost_ret (v := .tuple #[.int .i64 (n * 86400000), .int .i64 0]) (by simp [results, Tryz.results23, go_sem]) rfl ⟨rfl, lay_ex _ _⟩
/-- A row of two pages, as the law makes it. -/
theorem two_pgs {P : Nat → Prop} {w : World} {zp zq : PgW} {p q : PgV} (hp : PgD P w zp p) (hq : PgD P w zq q) (wp : pgR.wf zp) (wq : pgR.wf zq) (L : List (Obj ⊕ Ext)) :
    PgsD (fun b => b < (lay w (.inl (.cells #[.int .i64 zp.y, .int .i64 zp.m, .int .i64 zp.d, .slice zp.ta zp.tn zp.tc, .int .i64 zq.y, .int .i64 zq.m, .int .i64 zq.d, .slice zq.ta zq.tn zq.tc] 53 (0, 0)) :: L)).heap.size) (lay w (.inl (.cells #[.int .i64 zp.y, .int .i64 zp.m, .int .i64 zp.d, .slice zp.ta zp.tn zp.tc, .int .i64 zq.y, .int .i64 zq.m, .int .i64 zq.d, .slice zq.ta zq.tn zq.tc] 53 (0, 0)) :: L)) (.slice (some ⟨posn w (shp L), 0, none⟩) 2 2) [p, q] := by
  have h := (owG_lit (w := w) (L := L) pgOk [zp, zq] (cs := #[.int .i64 zp.y, .int .i64 zp.m, .int .i64 zp.d, .slice zp.ta zp.tn zp.tc, .int .i64 zq.y, .int .i64 zq.m, .int .i64 zq.d, .slice zq.ta zq.tn zq.tc]) rfl (by simp) (by
    intro x hx
    simp only [List.mem_cons, List.not_mem_nil, or_false] at hx
    rcases hx with rfl | rfl
    · exact wp
    · exact wq)).sl pgOk
  have k : PgsD (fun _ => True) _ _ [p, q] := ⟨[zp, zq], h, blk_true _, rfl, fun i x t hx ht => by
    match i with
    | 0 => simp only [List.getElem?_cons_zero, Option.some.injEq] at hx ht; subst hx ht; exact ⟨hp.y, hp.m, hp.d, (hp.ts.mono fun _ _ => trivial).lay _⟩
    | 1 => simp only [List.getElem?_cons_succ, List.getElem?_cons_zero, Option.some.injEq] at hx ht; subst hx ht; exact ⟨hq.y, hq.m, hq.d, (hq.ts.mono fun _ _ => trivial).lay _⟩
    | i + 2 => simp at hx⟩
  exact k.bound.mono fun b hb => hb.2
theorem sl_25 {w : World} {a : Option Addr} {n c : Nat} {l : List Int} (h : Sl w (.slice a n c) l) (hl : l.length = 25) : ∃ b o, a = some ⟨b, o, none⟩ ∧ n = 25 ∧ (25 ≤ c ∧ c ≤ 9223372036854775807) ∧ b < w.heap.size ∧ w.cell? ⟨b, o, none⟩ = some (.int .i64 (nth l 0)) ∧ w.cell? ⟨b, o + 24, none⟩ = some (.int .i64 (nth l 24)) := by
  obtain ⟨a', c', e, hc, _, h3⟩ := h
  obtain ⟨rfl, rfl, rfl⟩ := Value.slice.inj e
  obtain ⟨b, o, e2, hb, hr⟩ := h3 (by intro h; rw [h] at hl; simp at hl)
  rw [hl] at hc
  exact ⟨b, o, e2, hl, hc, hb, hr 0 (by omega), hr 24 (by omega)⟩
set_option maxHeartbeats 1000000 in
set_option maxRecDepth 100000 in
theorem law17_Midnight (zp : PgW) (p : PgV) (wp : pgR.wf zp) {w : World} (hp : PgD (InB w) w zp p) (zq : PgW) (q : PgV) (wq : pgR.wf zq) (hq : PgD (InB w) w zq q) (k : Int) (wk : (Lit.int .u8 k).wf = true) :
    Calls Tryz.prog 5 #[.agg (pgR.enc zp).toArray, .agg (pgR.enc zq).toArray, .int .u8 k] w fun e w' => e = .returned (.bool true) ∧ ∃ d, w' = bw w d := by
  have hk : 0 ≤ k ∧ k ≤ 255 := by simpa [Lit.wf, IntKind.min, IntKind.max, IntKind.bits, IntKind.signed] using wk
  change Calls Tryz.prog _ #[.agg #[.int .i64 zp.y, .int .i64 zp.m, .int .i64 zp.d, .slice zp.ta zp.tn zp.tc], .agg #[.int .i64 zq.y, .int .i64 zq.m, .int .i64 zq.d, .slice zq.ta zq.tn zq.tc], .int .u8 k] w _
  have HAw := Lib.hid (fun W => law17_awake W)
  have HPg := Lib.hid (fun L => two_pgs hp hq wp wq L)
  have HVp := Lib.hid (fun L => ref13_Valid zp.y zp.m zp.d (.slice zp.ta zp.tn zp.tc) p.ts (lay w L) (hp.ts.lay L))
  rw [hp.y, hp.m, hp.d, show (⟨p.y, p.m, p.d, p.ts⟩ : PgV) = p from rfl, ← hp.y, ← hp.m, ← hp.d] at HVp
  have HFd := Lib.hid (fun s L => ref13_Find zq.y zq.m zq.d (.slice zq.ta zq.tn zq.tc) q.ts s (lay w L) (hq.ts.lay L))
  unfold IdxPost at HFd
  have HTn := Lib.hid (tksD_len hp.ts)
  have HUn := Lib.hid (tksD_len hq.ts)
  have HTp := Lib.hid hp.ts
  have HTq := Lib.hid hq.ts
  have HQd : Hid (zq.y = q.y ∧ zq.m = q.m ∧ zq.d = q.d) := Lib.hid ⟨hq.y, hq.m, hq.d⟩
  clear hp hq wp wq wk
  obtain ⟨py, pm, pd, pa, pn, pc⟩ := zp
  obtain ⟨qy, qm, qd, qa, qn, qc⟩ := zq
  dsimp only at *
  have HLa := Lib.hid (fun L => law17_large _ _ _ [] _ (HPg.out L) (SlG.nil _ _))
  have HMy := Lib.hid (fun L h => law17_made_yes _ _ _ [] _ (HPg.out L) (fun b hb => hb) (SlG.nil _ _) h)
  have HMn := Lib.hid (fun L h => law17_made_no _ _ _ [] _ (HPg.out L) (fun b hb => hb) (SlG.nil _ _) h)
  refine lay_start ?_
  go_enter Tryz.func5, Tryz.ntmps5
  go_wp2_with (first | (go_at_call 11; refine (HAw.out _).mono ?_; rintro e w' ⟨rfl, d1, rfl⟩))
  refine (HLa.out [.inr d1, .inl (.cells #[.int .i64 qy, .int .i64 qm, .int .i64 qd, .slice qa qn qc] 53 (0, 0)), .inl (.cells #[.int .i64 py, .int .i64 pm, .int .i64 pd, .slice pa pn pc] 53 (0, 0))]).mono ?_
  rintro e w' ⟨r, rfl, d2, rfl⟩
  rw [lay_bw]
  cases r
  · cases hpb : pgB p
    · rw [hpb] at HVp
      clear hpb
      go_wp2_with (go_at_call 21; refine (HVp.out _).mono ?_; rintro e w' ⟨rfl, d3, rfl⟩)
      go_ret
      exact ⟨rfl, lay_ex _ _⟩
    · rw [hpb] at HVp
      have hpn := (pgB_iff.1 hpb).len
      rw [← HTn.out] at hpn
      clear hpb
      by_cases hz : pn = 0
      · subst hz
        go_wp2_with (go_at_call 21; refine (HVp.out _).mono ?_; rintro e w' ⟨rfl, d3, rfl⟩)
        go_ret
        exact ⟨rfl, lay_ex _ _⟩
      · have t0 : ((pn : Int) == 0) = false := beq_eq_false_iff_ne.2 (by omega)
        go_wp2_with (go_at_call 21; refine (HVp.out _).mono ?_; rintro e w' ⟨rfl, d3, rfl⟩)
        by_cases hE : newE [p, q] [] = 0
        · have hkk := newE_0 hE
          have HKK := Lib.hid hkk
          refine (HMy.out [.inr d3, .inr d2, .inl (.cells #[.int .i64 py, .int .i64 pm, .int .i64 pd, .slice pa pn pc, .int .i64 qy, .int .i64 qm, .int .i64 qd, .slice qa qn qc] 53 (0, 0)), .inr d1, .inl (.cells #[.int .i64 qy, .int .i64 qm, .int .i64 qd, .slice qa qn qc] 53 (0, 0)), .inl (.cells #[.int .i64 py, .int .i64 pm, .int .i64 pd, .slice pa pn pc] 53 (0, 0))] hE).mono ?_
          rintro e w' ⟨bk, d4, rfl, rfl, hB⟩
          have HW0 := made_Where hB hkk
          have HW := Lib.hid (fun s a b L => HW0.out s a b L)
          clear HW0
          rw [lay_bw] at HW ⊢
          simp only [← lay_appG] at HW
          -- the track
          obtain ⟨j, hj⟩ : ∃ j : Nat, (j : Int) = k % (pn : Int) := ⟨(k % (pn : Int)).toNat, by have := Int.emod_nonneg k (show (pn : Int) ≠ 0 by omega); omega⟩
          have hjl : j < pn := by have := Int.emod_lt_of_pos k (show (0 : Int) < (pn : Int) by omega); omega
          obtain ⟨x, hx⟩ : ∃ x, p.ts[j]? = some x := ⟨_, List.getElem?_eq_getElem (by rw [← HTn.out]; exact hjl)⟩
          obtain ⟨b1, o1, c1, hve, hcc1, hb1, -, hr1⟩ := HTp.out.open (by rw [← HTn.out]; omega)
          rw [← HTn.out] at hve hcc1
          cases hve
          obtain ⟨z, hzw, hzD, e0, e1, e2, e3, e4, e5⟩ := hr1 j x hx
          have tkx := (hkk.ok p (List.mem_cons_self ..)).ok j x hx
          obtain ⟨g1, g2, gx1, gx2, gx3, gx4, gx5, gx6⟩ := sl_25 hzD.g.1 (trkB_iff.1 tkx.1).lg
          obtain ⟨f1, f2, fx1, fx2, fx3, fx4, fx5, fx6⟩ := sl_25 hzD.d.1 (trkB_iff.1 tkx.1).ld
          have hzs := hzD.s
          have HX := Lib.hid hx
          have hmod : k.tmod (pn : Int) = (j : Int) := by rw [hj]; exact Int.tmod_eq_emod_of_nonneg hk.1
          have hmod2 : k % (pn : Int) = (j : Int) := hj.symm
          have m0 : (pn : Int) ≠ 0 := by omega
          have m4 : IntKind.i64.wrap k = k := IntWalk.i64_in _ (by omega)
          have m1 : (j : Int) < (pn : Int) := by omega
          have m2 : (0 : Int) ≤ (j : Int) := by omega
          obtain ⟨xs, xga, xgn, xgc, xda, xdn, xdc, xp, xq, xr⟩ := z
          dsimp only at e0 e1 e2 e3 e4 e5 gx1 gx2 gx3 fx1 fx2 fx3 hzs
          subst gx1 gx2 fx1 fx2
          have HF := Lib.hid (HFd.out xs)
          have HHs := Lib.hid hzs
          have HTkx := Lib.hid tkx.2
          clear hzw hzD hr1 hx tkx hj hzs hkk hE HPg HFd HVp HAw hB HLa HMy HMn
          rcases idxR_cases (fun t : TrkV => nmB t.s xs) q.ts with ⟨h1, _⟩ | ⟨i, y, h1, h2, h3, h4⟩
          · rw [show fndT q.ts xs = -1 from h1] at HF
            clear h1
            generalize nth x.g 24 = X24 at *
            generalize nth x.d 24 = Y24 at *
            go_wp2_with fail
            refine region_mixW [0, 0, 0, 0, 0, 0, 0, 0, 0, 0, 1, 1] (by kernel_rfl) (by kernel_rfl) (by kernel_rfl) ?_
            repeat (first | (refine wpM_quiet (fun K hK => ?_); go_simp; first | (refine hK _ ?_; clear hK K) | (apply Exists.intro; refine ⟨fun _ => ?_, hK _ ?_⟩; (first | fail); clear hK K)) | (refine wpM_special (fun K hK d => ?_); go_simp; refine hK _ _ (by first | exact lay_in w [_] _ | exact lay_in w [_, _] _ | exact lay_in w [_, _, _] _ | exact lay_in w [_, _, _, _] _ | exact lay_in w [_, _, _, _, _] _ | exact lay_in w [_, _, _, _, _, _] _) ?_; clear hK K))
            refine wpM_nil ?_
            intro d
            rw [lay_bw]
            go_wp2_with fail
            refine (HF.out _).mono ?_
            rintro e w' ⟨rfl, d5, rfl⟩
            rw [lay_bw]
            go_wp2_with fail
            refine region_bw (by kernel_rfl) (by kernel_rfl) ?_
            repeat (go_big_quiet_step ((first | fail)))
            refine wpQuiet_nil ?_
            rintro w' ⟨d, rfl⟩
            rw [lay_bw]
            go_wp2_with fail
            go_ret
            exact ⟨rfl, lay_ex _ _⟩
          · rw [show fndT q.ts xs = (i : Int) from h1] at HF
            have HFi : Hid (fndT q.ts xs = (i : Int)) := Lib.hid h1
            have hil : i < qn := by rw [HUn.out]; exact (List.getElem?_eq_some_iff.1 h2).1
            obtain ⟨b3, o3, c3, hve3, hcc3, hb3, -, hr3⟩ := HTq.out.open (by rw [← HUn.out]; omega)
            rw [← HUn.out] at hve3 hcc3
            cases hve3
            obtain ⟨zy, hyw, hyD, u0, u1, u2, u3, u4, u5⟩ := hr3 i y h2
            have tky := (HKK.out.ok q (List.mem_cons_of_mem _ (List.mem_cons_self ..))).ok i y h2
            obtain ⟨gg1, gg2, gy1, gy2, gy3, gy4, gy5, gy6⟩ := sl_25 hyD.g.1 (trkB_iff.1 tky.1).lg
            obtain ⟨ff1, ff2, fy1, fy2, fy3, fy4, fy5, fy6⟩ := sl_25 hyD.d.1 (trkB_iff.1 tky.1).ld
            obtain ⟨ys, yga, ygn, ygc, yda, ydn, ydc, yp, yq, yr⟩ := zy
            dsimp only at u0 u1 u2 u3 u4 u5 gy1 gy2 gy3 fy1 fy2 fy3
            subst gy1 gy2 fy1 fy2
            have HY := Lib.hid h2
            have n1 : (i : Int) < (qn : Int) := by omega
            have n2 : (0 : Int) ≤ (i : Int) := by omega
            have n3 : ¬ (i : Int) < 0 := by omega
            have n4 : decide ((i : Int) < 0) = false := decide_eq_false n3
            have HMid := Lib.hid (fun hg hd => mid_ok HKK.out HX.out HY.out (by rw [← HHs.out]; exact HFi.out) hg hd)
            rw [← HHs.out] at HMid
            have hoq := HKK.out.ok q (List.mem_cons_of_mem _ (List.mem_cons_self ..))
            have HAt := Lib.hid (fun W => ref10_At q.y q.m q.d W hoq.dt hoq.lo hoq.hi)
            have nb := And.intro hoq.lo hoq.hi
            rw [← HQd.out.1, ← HQd.out.2.1, ← HQd.out.2.2] at HAt HMid nb
            have HCat := HKK.out.cat
            have HRg := Lib.hid (fun a b h => whR_right (lp := [p, q]) (ls := []) (s := xs) (a := a) (b := b) HKK.out.ok HKK.out.cat h)
            obtain ⟨X24, hX24⟩ : ∃ v, nth x.g 24 = v := ⟨_, rfl⟩
            obtain ⟨Y24, hY24⟩ : ∃ v, nth x.d 24 = v := ⟨_, rfl⟩
            obtain ⟨G0, hG0⟩ : ∃ v, nth y.g 0 = v := ⟨_, rfl⟩
            obtain ⟨D0, hD0⟩ : ∃ v, nth y.d 0 = v := ⟨_, rfl⟩
            rw [hX24] at gx6 HMid
            rw [hY24] at fx6 HMid
            rw [hG0] at gy5 HMid
            rw [hD0] at fy5 HMid
            clear h1 h2 h3 h4 hr3 hyw hyD tky hX24 hY24 hG0 hD0 hoq HCat
            obtain ⟨M, hM⟩ : ∃ M, numI qy qm qd = M := ⟨_, rfl⟩
            rw [hM] at HAt HMid nb
            clear hM
            by_cases hg : G0 = X24
            · by_cases hd : D0 = Y24
              · have hmid := HMid.out hg hd
                have tg : (G0 != X24) = false := by simpa using hg
                have tg2 : (G0 == X24) = true := by simpa using hg
                have td : (D0 != Y24) = false := by simpa using hd
                have td2 : (D0 == Y24) = true := by simpa using hd
                have HMd := Lib.hid hmid
                have HW1 := Lib.hid (fun L => HW.out xs (M * 86400000 - 1) (M * 86400000 - 1) L)
                have HW2 := Lib.hid (fun L => HW.out xs (M * 86400000) (M * 86400000) L)
                have HW3 := Lib.hid (fun L => HW.out xs (M * 86400000 - 1) (M * 86400000) L)
                rw [gv_eta] at HW1 HW2 HW3
                have rg1 := HRg.out (M * 86400000 - 1) (M * 86400000 - 1)
                have rg2 := HRg.out (M * 86400000) (M * 86400000)
                have rg3 := HRg.out (M * 86400000 - 1) (M * 86400000)
                obtain ⟨ml, mf⟩ := hmid
                clear hg hd HMid HRg HW HMd
                generalize (whR [p, q] [] xs (M * 86400000 - 1) (M * 86400000 - 1)).2 = E1 at *
                generalize (whR [p, q] [] xs (M * 86400000 - 1) (M * 86400000 - 1)).1 = G1 at *
                generalize (whR [p, q] [] xs (M * 86400000) (M * 86400000)).2 = E2 at *
                generalize (whR [p, q] [] xs (M * 86400000) (M * 86400000)).1 = G2 at *
                generalize (whR [p, q] [] xs (M * 86400000 - 1) (M * 86400000)).2 = E3 at *
                generalize (whR [p, q] [] xs (M * 86400000 - 1) (M * 86400000)).1 = G3 at *
                obtain ⟨r1, r2, r3, r4, r5, r6, r7, r8⟩ := G1
                obtain ⟨q1, q2, q3, q4, q5, q6, q7, q8⟩ := G2
                obtain ⟨s1, s2, s3, s4, s5, s6, s7, s8⟩ := G3
                dsimp only at *
                have y1 : IntKind.i64.wrap (M * 86400000 - 1) = M * 86400000 - 1 := IntWalk.i64_in _ (by omega)
                rcases ml with e | e
                · subst e
                  obtain ⟨he2, he3, hag, hme, ⟨p1, ⟨p2, p3⟩, p4, p5⟩, ⟨t1, ⟨t2, t3⟩, t4, t5⟩⟩ := mf rfl
                  subst he2 he3
                  have R1 := rg1 rfl
                  have R2 := rg2 rfl
                  have R3 := rg3 rfl
                  have HR1 := Lib.hid (fun W => law17_right _ _ _ _ _ _ _ _ W R1)
                  have HR2 := Lib.hid (fun W => law17_right _ _ _ _ _ _ _ _ W R2)
                  have HR3 := Lib.hid (fun W => law17_right _ _ _ _ _ _ _ _ W R3)
                  have HAg := Lib.hid (fun W => angle_Agree r1 r2 q1 q2 W R1.1 R2.1)
                  have HMe := Lib.hid (fun W => ref05_Meets r3 r4 q3 q4 W)
                  have HWa := Lib.hid (fun W => law17_within r1 r2 s1 s2 W R1.1 ⟨R1.2.1, R1.2.2.1⟩ R3.1 ⟨R3.2.1, R3.2.2.1⟩ p1)
                  have HWb := Lib.hid (fun W => law17_within q1 q2 s1 s2 W R2.1 ⟨R2.2.1, R2.2.2.1⟩ R3.1 ⟨R3.2.1, R3.2.2.1⟩ t1)
                  have HI1 := Lib.hid (fun W => ref05_Inside r3 r4 s3 s4 W)
                  have HI2 := Lib.hid (fun W => ref05_Inside q3 q4 s3 s4 W)
                  rw [hag] at HAg
                  rw [hme] at HMe
                  rw [insideB_iff.2 ⟨p2, p3⟩] at HI1
                  rw [insideB_iff.2 ⟨t2, t3⟩] at HI2
                  dsimp only at HR1 HR2 HR3
                  clear mf rg1 rg2 rg3 hag hme p1 p2 p3 p4 p5 t1 t2 t3 t4 t5 R1 R2 R3
                  go_wp2_with fail
                  refine region_mixW [0, 0, 0, 0, 0, 0, 0, 0, 0, 0, 1, 1] (by kernel_rfl) (by kernel_rfl) (by kernel_rfl) ?_
                  repeat (first | (refine wpM_quiet (fun K hK => ?_); go_simp; first | (refine hK _ ?_; clear hK K) | (apply Exists.intro; refine ⟨fun _ => ?_, hK _ ?_⟩; (first | fail); clear hK K)) | (refine wpM_special (fun K hK d => ?_); go_simp; refine hK _ _ (by first | exact lay_in w [_] _ | exact lay_in w [_, _] _ | exact lay_in w [_, _, _] _ | exact lay_in w [_, _, _, _] _ | exact lay_in w [_, _, _, _, _] _ | exact lay_in w [_, _, _, _, _, _] _) ?_; clear hK K))
                  refine wpM_nil ?_
                  intro d
                  rw [lay_bw]
                  go_wp2_with fail
                  refine (HF.out _).mono ?_
                  rintro e w' ⟨rfl, d5, rfl⟩
                  rw [lay_bw]
                  go_wp2_with fail
                  refine region_bw (by kernel_rfl) (by kernel_rfl) ?_
                  repeat (go_big_quiet_step ((first | fail)))
                  refine wpQuiet_nil ?_
                  rintro w' ⟨d, rfl⟩
                  rw [lay_bw]
                  go_wp2_with (go_at_call 23; refine (HAt.out _).mono ?_; rintro e w' ⟨rfl, d6, rfl⟩)
                  refine (HW1.out [_, _, _, _, _, _, _]).mono ?_
                  rintro e w' ⟨rfl, d7, rfl⟩
                  go_wp2_with fail
                  refine (HW2.out [_, _, _, _, _, _, _, _, _]).mono ?_
                  rintro e w' ⟨rfl, d8, rfl⟩
                  go_wp2_with fail
                  refine (HW3.out [_, _, _, _, _, _, _, _, _, _, _]).mono ?_
                  rintro e w' ⟨rfl, d9, rfl⟩
                  go_wp2_with (first | (go_at_call 18; (with_reducible refine (HR1.out _).mono ?_); rintro e w' ⟨rfl, dA, rfl⟩) | (go_at_call 18; (with_reducible refine (HR2.out _).mono ?_); rintro e w' ⟨rfl, dB, rfl⟩) | (go_at_call 18; (with_reducible refine (HR3.out _).mono ?_); rintro e w' ⟨rfl, dC, rfl⟩) | (go_at_call 24; refine (HAg.out _).mono ?_; rintro e w' ⟨rfl, dD, rfl⟩) | (go_at_call 25; refine (HMe.out _).mono ?_; rintro e w' ⟨rfl, dE, rfl⟩) | (go_at_call 19; first | ((with_reducible refine (HWa.out _).mono ?_); rintro e w' ⟨rfl, dF, rfl⟩) | ((with_reducible refine (HWb.out _).mono ?_); rintro e w' ⟨rfl, dG, rfl⟩)) | (go_at_call 20; first | ((with_reducible refine (HI1.out _).mono ?_); rintro e w' ⟨rfl, dH, rfl⟩) | ((with_reducible refine (HI2.out _).mono ?_); rintro e w' ⟨rfl, dI, rfl⟩)))
                  go_ret
                  exact ⟨rfl, lay_ex _ _⟩
                · subst e
                  clear mf rg1 rg2 rg3
                  go_wp2_with fail
                  refine region_mixW [0, 0, 0, 0, 0, 0, 0, 0, 0, 0, 1, 1] (by kernel_rfl) (by kernel_rfl) (by kernel_rfl) ?_
                  repeat (first | (refine wpM_quiet (fun K hK => ?_); go_simp; first | (refine hK _ ?_; clear hK K) | (apply Exists.intro; refine ⟨fun _ => ?_, hK _ ?_⟩; (first | fail); clear hK K)) | (refine wpM_special (fun K hK d => ?_); go_simp; refine hK _ _ (by first | exact lay_in w [_] _ | exact lay_in w [_, _] _ | exact lay_in w [_, _, _] _ | exact lay_in w [_, _, _, _] _ | exact lay_in w [_, _, _, _, _] _ | exact lay_in w [_, _, _, _, _, _] _) ?_; clear hK K))
                  refine wpM_nil ?_
                  intro d
                  rw [lay_bw]
                  go_wp2_with fail
                  refine (HF.out _).mono ?_
                  rintro e w' ⟨rfl, d5, rfl⟩
                  rw [lay_bw]
                  go_wp2_with fail
                  refine region_bw (by kernel_rfl) (by kernel_rfl) ?_
                  repeat (go_big_quiet_step ((first | fail)))
                  refine wpQuiet_nil ?_
                  rintro w' ⟨d, rfl⟩
                  rw [lay_bw]
                  go_wp2_with (go_at_call 23; refine (HAt.out _).mono ?_; rintro e w' ⟨rfl, d6, rfl⟩)
                  refine (HW1.out [_, _, _, _, _, _, _]).mono ?_
                  rintro e w' ⟨rfl, d7, rfl⟩
                  go_wp2_with fail
                  refine (HW2.out [_, _, _, _, _, _, _, _, _]).mono ?_
                  rintro e w' ⟨rfl, d8, rfl⟩
                  go_wp2_with fail
                  go_ret
                  exact ⟨rfl, lay_ex _ _⟩
              · have tg : (G0 != X24) = false := by simpa using hg
                have tg2 : (G0 == X24) = true := by simpa using hg
                have td : (D0 != Y24) = true := by simpa using hd
                have td2 : (D0 == Y24) = false := beq_eq_false_iff_ne.2 hd
                clear HMid HRg HW
                go_wp2_with fail
                refine region_mixW [0, 0, 0, 0, 0, 0, 0, 0, 0, 0, 1, 1] (by kernel_rfl) (by kernel_rfl) (by kernel_rfl) ?_
                repeat (first | (refine wpM_quiet (fun K hK => ?_); go_simp; first | (refine hK _ ?_; clear hK K) | (apply Exists.intro; refine ⟨fun _ => ?_, hK _ ?_⟩; (first | fail); clear hK K)) | (refine wpM_special (fun K hK d => ?_); go_simp; refine hK _ _ (by first | exact lay_in w [_] _ | exact lay_in w [_, _] _ | exact lay_in w [_, _, _] _ | exact lay_in w [_, _, _, _] _ | exact lay_in w [_, _, _, _, _] _ | exact lay_in w [_, _, _, _, _, _] _) ?_; clear hK K))
                refine wpM_nil ?_
                intro d
                rw [lay_bw]
                go_wp2_with fail
                refine (HF.out _).mono ?_
                rintro e w' ⟨rfl, d5, rfl⟩
                rw [lay_bw]
                go_wp2_with fail
                refine region_bw (by kernel_rfl) (by kernel_rfl) ?_
                repeat (go_big_quiet_step ((first | fail)))
                refine wpQuiet_nil ?_
                rintro w' ⟨d, rfl⟩
                rw [lay_bw]
                go_wp2_with fail
                go_ret
                exact ⟨rfl, lay_ex _ _⟩
            · have tg : (G0 != X24) = true := by simpa using hg
              have tg2 : (G0 == X24) = false := beq_eq_false_iff_ne.2 hg
              clear HMid HRg HW
              go_wp2_with fail
              refine region_mixW [0, 0, 0, 0, 0, 0, 0, 0, 0, 0, 1, 1] (by kernel_rfl) (by kernel_rfl) (by kernel_rfl) ?_
              repeat (first | (refine wpM_quiet (fun K hK => ?_); go_simp; first | (refine hK _ ?_; clear hK K) | (apply Exists.intro; refine ⟨fun _ => ?_, hK _ ?_⟩; (first | fail); clear hK K)) | (refine wpM_special (fun K hK d => ?_); go_simp; refine hK _ _ (by first | exact lay_in w [_] _ | exact lay_in w [_, _] _ | exact lay_in w [_, _, _] _ | exact lay_in w [_, _, _, _] _ | exact lay_in w [_, _, _, _, _] _ | exact lay_in w [_, _, _, _, _, _] _) ?_; clear hK K))
              refine wpM_nil ?_
              intro d
              rw [lay_bw]
              go_wp2_with fail
              refine (HF.out _).mono ?_
              rintro e w' ⟨rfl, d5, rfl⟩
              rw [lay_bw]
              go_wp2_with fail
              refine region_bw (by kernel_rfl) (by kernel_rfl) ?_
              repeat (go_big_quiet_step ((first | fail)))
              refine wpQuiet_nil ?_
              rintro w' ⟨d, rfl⟩
              rw [lay_bw]
              go_wp2_with fail
              go_ret
              exact ⟨rfl, lay_ex _ _⟩
        · refine (HMn.out [.inr d3, .inr d2, .inl (.cells #[.int .i64 py, .int .i64 pm, .int .i64 pd, .slice pa pn pc, .int .i64 qy, .int .i64 qm, .int .i64 qd, .slice qa qn qc] 53 (0, 0)), .inr d1, .inl (.cells #[.int .i64 qy, .int .i64 qm, .int .i64 qd, .slice qa qn qc] 53 (0, 0)), .inl (.cells #[.int .i64 py, .int .i64 pm, .int .i64 pd, .slice pa pn pc] 53 (0, 0))] hE).mono ?_
          rintro e w' ⟨rfl, d4, rfl⟩
          go_wp2_with fail
          go_ret
          exact ⟨rfl, lay_ex _ _⟩
  · go_wp2_with fail
    go_ret
    exact ⟨rfl, lay_ex _ _⟩
end Go.Proofs.YtlkphcjlgbimkaaGreat

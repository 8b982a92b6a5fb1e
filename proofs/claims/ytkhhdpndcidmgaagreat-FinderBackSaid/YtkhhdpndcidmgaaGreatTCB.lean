/- Contracts and plain laws, several texts in one: SnX -/
import Derived.Test.YtkhhdpndcidmgaaGreatProg
import Derived.WalkKit
import Derived.WalkSpells
import Derived.WalkLawsBesides
import Derived.Lib.Hide
import Derived.BigQuiet
import Derived.Test.YtkhhdpndcidmgaaGreatTAE
import Derived.Test.YtkhhdpndcidmgaaGreatTAF
import Derived.Test.YtkhhdpndcidmgaaGreatTAI
import Derived.Test.YtkhhdpndcidmgaaGreatTBE
import Derived.Test.YtkhhdpndcidmgaaGreatTBY
import Derived.Test.YtkhhdpndcidmgaaGreatTCA
/- FinderBack: the walk. -/
namespace Go.Proofs.YtkhhdpndcidmgaaGreat
set_option maxHeartbeats 8000000
set_option maxRecDepth 100000
open Go.RowKit Go.Shelf

theorem st_litB (z : StarV) (hz : stR.wf z) (w : World) (L : List (Obj ⊕ Ext)) : SlG stR (lay w (.inl (.cells #[.string z.s, .int .i64 z.sha, .int .i64 z.dec, .int .i64 z.mag] 42 (0, 0)) :: L)) (.slice (some ⟨posn w (shp L), 0, none⟩) 1 1) [z] :=
  (owG_lit stOk [z] rfl (Nat.le_of_ble_eq_true rfl) (by intro x hx; rw [List.mem_singleton.1 hx]; exact hz)).sl stOk
theorem ref51_GivenB (a b u v x y : Int) (w : World) :
    Calls Tryz.prog 16 #[(.agg #[.int .i64 (a), .int .i64 (b)]), (.agg #[.int .i64 (u), .int .i64 (v), .int .i64 (x), .int .i64 (y)])] w fun e w' => e = .returned (.int .i64 (if timB a b = true ∧ plcR u v x y = true then 0 else 1)) ∧ ∃ d, w' = bw w d := by
  have HT := Lib.hid (fun W => ref10_Valid a b W)
  have HP := Lib.hid (fun W => r8_Valid u v x y W)
  cases ht : timB a b <;> cases hp : plcR u v x y
  all_goals
    rw [ht] at HT
    rw [hp] at HP
    clear ht hp
    refine lay_start ?_
    go_enter Tryz.func16, Tryz.ntmps16
    go_wp2_with (first | (go_at_call 46; refine (HT.out _).mono ?_; rintro e w' ⟨rfl, d1, rfl⟩; rw [lay_bw]) | (go_at_call 47; refine (HP.out _).mono ?_; rintro e w' ⟨rfl, d2, rfl⟩; rw [lay_bw]))
    go_ret
    exact ⟨by simp, lay_ex _ _⟩
theorem alm_LhaS (bk : Nat) (vd vp vs : Value) (z : StarV) (a b x y : Int) (w : World) (hB : Bk w bk vd vp vs) (hv : SlG stR w vs [z]) (hf : fndS [z] z.s = ((0 : Nat) : Int)) (hne : (z.s.toList == [65, 114, 105, 101, 115]) = false) (ht : timB a b = true) (hw : b - a < 86400000)
    (h0 : 0 ≤ z.sha) (h1 : z.sha ≤ 215999) (d0 : -54000 ≤ z.dec) (d1 : z.dec ≤ 54000) (hx : validB x y = true) :
    Calls Tryz.prog 20 #[.pointer (some ⟨bk, 0, none⟩), .string z.s, (.agg #[.int .i64 (a), .int .i64 (b)]), (.agg #[.int .i64 (x), .int .i64 (y)])] w fun e w' => e = .returned (.tuple #[(.agg #[.int .i64 (turnLo (sgL a b z.sha + turnLo x y) (sgH a b z.sha + turnHi x y)), .int .i64 (turnHi (sgL a b z.sha + turnLo x y) (sgH a b z.sha + turnHi x y))]), .int .i64 0]) ∧ ∃ d, w' = bw w d := by
  have HW2 := Lib.hid (fun L => alm_Where_star bk vd vp vs [z] 0 z z.s a b (lay w L) (hB.lay L) (hv.lay L) rfl hf hne ht hw h0 h1 d0 d1)
  have hab := (timB_iff.1 ht).1
  have HV := Lib.hid (fun W => clock_Valid a b W)
  have HX := Lib.hid (fun W => angle_Valid x y W)
  rw [ht] at HV
  rw [hx] at HX
  have bt := turn_bd (validB_iff.1 hx).1
  have ag := ag_bd hab
  have bs := turn_bd (show agL a b + (100 * z.sha - 50) ≤ agH a b + (100 * z.sha + 50) by omega)
  change 0 ≤ sgL a b z.sha ∧ sgL a b z.sha ≤ 21599999 ∧ sgL a b z.sha ≤ sgH a b z.sha ∧ sgH a b z.sha ≤ sgL a b z.sha + 21600000 at bs
  have HT1 := Lib.hid (fun W => angle_Turn x y W hx)
  clear hB hv hf hne ht hw h0 h1 d0 d1 hab ag
  generalize dcL z.dec = r3 at *
  generalize dcH z.dec = r4 at *
  generalize sgL a b z.sha = r1 at *
  generalize sgH a b z.sha = r2 at *
  generalize z.s = s at *
  have HA := Lib.hid (fun W => angle_Add r1 r2 (turnLo x y) (turnHi x y) W (validB_iff.2 (by omega)) (validB_iff.2 (by omega)) (validB_iff.2 (by omega)))
  have HT2 := Lib.hid (fun W => angle_Turn (r1 + turnLo x y) (r2 + turnHi x y) W (validB_iff.2 (by omega)))
  clear hx bt bs
  generalize turnLo (r1 + turnLo x y) (r2 + turnHi x y) = RL at *
  generalize turnHi (r1 + turnLo x y) (r2 + turnHi x y) = RH at *
  generalize turnLo x y = p at *
  generalize turnHi x y = q at *
  refine lay_start ?_
  go_enter Tryz.func20, Tryz.ntmps20
  go_wp2_with (first | (go_at_call 59; refine (HV.out _).mono ?_; rintro e w' ⟨rfl, dV, rfl⟩) | (go_at_call 32; refine (HX.out _).mono ?_; rintro e w' ⟨rfl, dX, rfl⟩) | (go_at_call 18; refine (HW2.out _).mono ?_; rintro e w' ⟨rfl, dW, rfl⟩) | (go_at_call 8; (with_reducible refine (HT1.out _).mono ?_); rintro e w' ⟨rfl, d1, rfl⟩) | (go_at_call 8; (with_reducible refine (HT2.out _).mono ?_); rintro e w' ⟨rfl, d2, rfl⟩) | (go_at_call 65; refine (HA.out _).mono ?_; rintro e w' ⟨rfl, d3, rfl⟩))
  all_goals exact bodyPost_ret (v := .tuple #[(.agg #[.int .i64 (RL), .int .i64 (RH)]), .int .i64 0]) (by simp [results, Tryz.results20, go_sem]) rfl ⟨rfl, lay_ex _ _⟩
theorem law51_Back (z : StarV) (hz : stR.wf z) (a b u v x y : Int) (w : World) :
    Calls Tryz.prog 4 #[.agg #[.string z.s, .int .i64 z.sha, .int .i64 z.dec, .int .i64 z.mag], (.agg #[.int .i64 (a), .int .i64 (b)]), (.agg #[.int .i64 (u), .int .i64 (v), .int .i64 (x), .int .i64 (y)])] w fun e w' => e = .returned (.bool true) ∧ ∃ d, w' = bw w d := by
  have HAw := Lib.hid (fun W => law51_awake W)
  by_cases h0 : z.s.size ≤ 100
  · have c0 : ¬ (100 : Int) < (z.s.size : Int) := by omega
    have HL := Lib.hid (fun L => st_litB z hz w L)
    have HV := Lib.hid (fun L => ref16_Valid _ [z] _ (HL.out L))
    have HGv := Lib.hid (fun W => ref51_GivenB a b u v x y W)
    have hcat := catB_iff (l := [z])
    have HNw := Lib.hid (fun L vv (hv : SlG stR (lay w L) vv [z]) (hc : catB [z] = true) (hA : isA z.s = false) => alm_New_nil3 vv [z] (lay w L) hv hc (by show (isA z.s || false) = false; rw [hA]; rfl))
    have HWh := Lib.hid (fun L bk vd vp vs (hB : Bk (lay w L) bk vd vp vs) (hv : SlG stR (lay w L) vs [z]) => alm_Where_star bk vd vp vs [z] 0 z z.s a b (lay w L) hB hv rfl)
    have HAr := Lib.hid (fun L bk vd vp vs (hB : Bk (lay w L) bk vd vp vs) (hv : SlG stR (lay w L) vs [z]) => alm_Aries bk vd vp vs [z] a b (lay w L) hB hv)
    have HLh := Lib.hid (fun L bk vd vp vs (hB : Bk (lay w L) bk vd vp vs) (hv : SlG stR (lay w L) vs [z]) => alm_LhaS bk vd vp vs z a b x y (lay w L) hB hv)
    have hA' : isA z.s = (z.s.toList == [65, 114, 105, 101, 115]) := rfl
    obtain ⟨zs, z1, z2, z3⟩ := z
    dsimp only at *
    clear h0 hz
    refine lay_start ?_
    go_enter Tryz.func4, Tryz.ntmps4
    go_wp2_with (go_at_call 5; refine (HAw.out _).mono ?_; rintro e w' ⟨rfl, d1, rfl⟩; rw [lay_bw])
    refine (HV.out [.inr d1, .inl (.cells #[.int .i64 u, .int .i64 v, .int .i64 x, .int .i64 y] 45 (0, 0)), .inl (.cells #[.int .i64 a, .int .i64 b] 43 (0, 0)), .inl (.cells #[.string zs, .int .i64 z1, .int .i64 z2, .int .i64 z3] 42 (0, 0))]).mono ?_
    rintro e w' ⟨rfl, d2, rfl⟩
    rw [lay_bw]
    clear HV HAw
    cases hc : catB [(⟨zs, z1, z2, z3⟩ : StarV)]
    · clear HL HNw HWh HAr HLh HGv
      go_wp2_with fail
      go_ret
      exact ⟨rfl, lay_ex _ _⟩
    · cases hA : isA zs
      · rw [hA] at hA'
        have hA2 := hA'.symm
        clear hA'
        by_cases hg : timB a b = true ∧ plcR u v x y = true
        · rw [if_pos hg] at HGv
          have kd : IntKind.i64.wrap (b - a) = b - a := IntWalk.i64_in _ (by have := timB_iff.1 hg.1; omega)
          by_cases hd : b - a < 86400000
          · have hdd : ¬ (86400000 : Int) ≤ b - a := by omega
            have HN := Lib.hid (HNw.out · · · hc hA)
            have hone := (hcat.1 hc).ok 0 _ rfl
            have hf : fndS [(⟨zs, z1, z2, z3⟩ : StarV)] zs = ((0 : Nat) : Int) := hone.2.2
            have hnum := hone.2.1
            unfold numB at hnum
            rw [decide_eq_true_eq] at hnum
            obtain ⟨⟨n0, n1⟩, ⟨n2, n3⟩, -⟩ := hnum
            dsimp only at n0 n1 n2 n3
            have hpl := hg.2
            unfold plcR at hpl
            rw [Bool.and_eq_true] at hpl
            have hlat := hpl.1
            have hlon : validB x y = true := by
              have := hpl.2
              unfold lonB at this
              rw [decide_eq_true_eq] at this
              rw [validB_iff]; omega
            have hab := (timB_iff.1 hg.1).1
            obtain ⟨l0, el0⟩ : ∃ l0, turnLo (sgL a b z1 + turnLo x y) (sgH a b z1 + turnHi x y) = l0 := ⟨_, rfl⟩
            obtain ⟨l1, el1⟩ : ∃ l1, turnHi (sgL a b z1 + turnLo x y) (sgH a b z1 + turnHi x y) = l1 := ⟨_, rfl⟩
            obtain ⟨H0, eH0⟩ : ∃ h, alL u v (dcL z2) (dcH z2) l0 l1 = h := ⟨_, rfl⟩
            obtain ⟨H1, eH1⟩ : ∃ h, alH u v (dcL z2) (dcH z2) l0 l1 = h := ⟨_, rfl⟩
            obtain ⟨zz, eZ⟩ : ∃ z, azF u v (dcL z2) (dcH z2) l0 l1 = z := ⟨_, rfl⟩
            obtain ⟨zz0, zz1⟩ := zz
            obtain ⟨t1, t2, t3, t4, t5⟩ := back_law (sha := z1) hlat hlon hab n2 n3 ⟨el0, el1⟩ ⟨eH0, eH1⟩ eZ
            have HW := Lib.hid (fun L bk vd vp vs hB hv => HWh.out L bk vd vp vs hB hv hf hA2 hg.1 hd n0 n1 n2 n3)
            have HA := Lib.hid (fun L bk vd vp vs hB hv => HAr.out L bk vd vp vs hB hv hg.1 hd)
            have HLa := Lib.hid (fun L bk vd vp vs hB hv => HLh.out L bk vd vp vs hB hv hf hA2 hg.1 hd n0 n1 n2 n3 hlon)
            rw [el0, el1] at HLa
            have HSo := Lib.hid (fun W => cos_Solve u v (dcL z2) (dcH z2) l0 l1 W t1)
            rw [eH0, eH1, eZ] at HSo
            dsimp only at HSo
            have vag := ag_valid hab
            obtain ⟨zf, eZ'⟩ : ∃ z, azF u v H0 H1 zz0 zz1 = z := ⟨_, rfl⟩
            obtain ⟨zf0, zf1⟩ := zf
            rw [eZ'] at t5
            dsimp only at t5
            have HU := Lib.hid (fun W => fn_Unknown u v H0 H1 zz0 zz1 (agL a b) (agH a b) x y zf0 zf1 _ _ _ _ W t2 vag hlon eZ' ⟨rfl, rfl⟩ ⟨rfl, rfl⟩)
            have hz2 := az_iv (a0 := u) (a1 := v) (b0 := H0) (b1 := H1) (c0 := zz0) (c1 := zz1)
            rw [eZ'] at hz2
            dsimp only at hz2
            have bt := turn_bd (validB_iff.1 hlon).1
            have bg := turn_bd (validB_iff.1 vag).1
            have vq := turn_valid (x := zf0 + -(turnHi x y) + -(turnHi (agL a b) (agH a b))) (y := zf1 + -(turnLo x y) + -(turnLo (agL a b) (agH a b))) (by omega)
            have HAg := Lib.hid (fun W => angle_Agree (turnLo (zf0 + -(turnHi x y) + -(turnHi (agL a b) (agH a b))) (zf1 + -(turnLo x y) + -(turnLo (agL a b) (agH a b)))) (turnHi (zf0 + -(turnHi x y) + -(turnHi (agL a b) (agH a b))) (zf1 + -(turnLo x y) + -(turnLo (agL a b) (agH a b)))) (100 * z1) (100 * z1) W vq (validB_iff.2 (by omega)))
            rw [t5] at HAg
            have HP := Lib.hid (fun n W => law51_point n W)
            have k1 : IntKind.i64.wrap (100 * z1) = 100 * z1 := IntWalk.i64_in _ (by omega)
            have k2 : IntKind.i64.wrap (100 * z2) = 100 * z2 := IntWalk.i64_in _ (by omega)
            obtain ⟨D, hD⟩ : ∃ D, 100 * z2 = D := ⟨_, rfl⟩
            obtain ⟨Sh, hSh⟩ : ∃ Sh, 100 * z1 = Sh := ⟨_, rfl⟩
            rw [hD] at t3 t4 k2
            rw [hSh] at HAg k1
            clear HNw HWh HAr HLh hone hf n0 n1 n2 n3 hlat hlon hab el0 el1 eH0 eH1 eZ eZ' t1 t2 t5 hz2 bt bg vq vag hpl hcat hd hg hA hc
            generalize turnLo (zf0 + -(turnHi x y) + -(turnHi (agL a b) (agH a b))) (zf1 + -(turnLo x y) + -(turnLo (agL a b) (agH a b))) = q0 at *
            generalize turnHi (zf0 + -(turnHi x y) + -(turnHi (agL a b) (agH a b))) (zf1 + -(turnLo x y) + -(turnLo (agL a b) (agH a b))) = q1 at *
            generalize alL u v H0 H1 zz0 zz1 = y0 at *
            generalize alH u v H0 H1 zz0 zz1 = y1 at *
            generalize agL a b = g0 at *
            generalize agH a b = g1 at *
            generalize sgL a b z1 = s0 at *
            generalize sgH a b z1 = s1 at *
            generalize dcL z2 = dc0 at *
            generalize dcH z2 = dc1 at *
            go_wp2_with (go_at_call 16; refine (HGv.out _).mono ?_; rintro e w' ⟨rfl, dq, rfl⟩; rw [lay_bw])
            refine (HN.out [.inl (.cells #[.string zs, .int .i64 z1, .int .i64 z2, .int .i64 z3] 42 (0, 0)), .inr dq, .inr d2, .inl (.cells #[.string zs, .int .i64 z1, .int .i64 z2, .int .i64 z3] 42 (0, 0)), .inr d1, .inl (.cells #[.int .i64 u, .int .i64 v, .int .i64 x, .int .i64 y] 45 (0, 0)), .inl (.cells #[.int .i64 a, .int .i64 b] 43 (0, 0)), .inl (.cells #[.string zs, .int .i64 z1, .int .i64 z2, .int .i64 z3] 42 (0, 0))] _ (HL.out [.inr dq, .inr d2, .inl (.cells #[.string zs, .int .i64 z1, .int .i64 z2, .int .i64 z3] 42 (0, 0)), .inr d1, .inl (.cells #[.int .i64 u, .int .i64 v, .int .i64 x, .int .i64 y] 45 (0, 0)), .inl (.cells #[.int .i64 a, .int .i64 b] 43 (0, 0)), .inl (.cells #[.string zs, .int .i64 z1, .int .i64 z2, .int .i64 z3] 42 (0, 0))])).mono ?_
            rintro e w' ⟨bk, vs, d3, rfl, rfl, hB, hS⟩
            rw [lay_bw] at hB hS ⊢
            obtain ⟨L0, hL0⟩ : ∃ L0 : List (Obj ⊕ Ext), L0 = [.inr d3, .inl (.cells #[.string zs, .int .i64 z1, .int .i64 z2, .int .i64 z3] 42 (0, 0)), .inr dq, .inr d2, .inl (.cells #[.string zs, .int .i64 z1, .int .i64 z2, .int .i64 z3] 42 (0, 0)), .inr d1, .inl (.cells #[.int .i64 u, .int .i64 v, .int .i64 x, .int .i64 y] 45 (0, 0)), .inl (.cells #[.int .i64 a, .int .i64 b] 43 (0, 0)), .inl (.cells #[.string zs, .int .i64 z1, .int .i64 z2, .int .i64 z3] 42 (0, 0))] := ⟨_, rfl⟩
            rw [← hL0] at hB hS
            have hBx : ∀ L', Bk (lay w (L' ++ L0)) bk (.slice none 0 0) (.slice none 0 0) vs := fun L' => by rw [lay_appG]; exact hB.lay L'
            have hSx : ∀ L', SlG stR (lay w (L' ++ L0)) vs [(⟨zs, z1, z2, z3⟩ : StarV)] := fun L' => by rw [lay_appG]; exact hS.lay L'
            have HWx := Lib.hid (fun L' => HW.out (L' ++ L0) bk _ _ vs (hBx L') (hSx L'))
            have HAx := Lib.hid (fun L' => HA.out (L' ++ L0) bk _ _ vs (hBx L') (hSx L'))
            have HLx := Lib.hid (fun L' => HLa.out (L' ++ L0) bk _ _ vs (hBx L') (hSx L'))
            clear HN HL HW HA HLa hB hS hBx hSx
            subst hL0
            go_wp2_with fail
            refine (HWx.out []).mono ?_
            rintro e w' ⟨rfl, d4, rfl⟩
            rw [lay_bw]
            go_wp2_with fail
            refine (HAx.out [_, _]).mono ?_
            rintro e w' ⟨rfl, d5, rfl⟩
            rw [lay_bw]
            go_wp2_with fail
            refine (HLx.out [_, _, _, _]).mono ?_
            rintro e w' ⟨rfl, d6, rfl⟩
            rw [lay_bw]
            clear HWx HAx HLx
            simp only [List.cons_append, List.nil_append]
            go_wp2_with (first | (go_at_call 9; refine (HSo.out _).mono ?_; rintro e w' ⟨rfl, dq2, rfl⟩; rw [lay_bw]) | (go_at_call 21; refine (HU.out _).mono ?_; rintro e w' ⟨rfl, dq3, rfl⟩; rw [lay_bw]))
            refine region_bw (by kernel_rfl) (by kernel_rfl) ?_
            repeat (go_big_quiet_step ((first | (go_at_call 23; first | exact bq (HP.out _ _) (fun d => ⟨d, rfl⟩) | exact bq (HP.out _ _) (fun d => lay_join _ _ _ d)) | (go_at_call 22; first | exact bq (HAg.out _) (fun d => ⟨d, rfl⟩) | exact bq (HAg.out _) (fun d => lay_join _ _ _ d)))))
            refine wpQuiet_nil ?_
            rintro w' ⟨d, rfl⟩
            rw [lay_bw]
            go_wp2_with fail
            go_ret
            exact ⟨rfl, lay_ex _ _⟩
          · have hdd : (86400000 : Int) ≤ b - a := by omega
            clear HL HNw HWh HAr HLh
            go_wp2_with (go_at_call 16; refine (HGv.out _).mono ?_; rintro e w' ⟨rfl, dq, rfl⟩; rw [lay_bw])
            go_ret
            exact ⟨rfl, lay_ex _ _⟩
        · rw [if_neg hg] at HGv
          clear HL HNw HWh HAr HLh
          go_wp2_with (go_at_call 16; refine (HGv.out _).mono ?_; rintro e w' ⟨rfl, dq, rfl⟩; rw [lay_bw])
          go_ret
          exact ⟨rfl, lay_ex _ _⟩
      · rw [hA] at hA'
        have hA2 := hA'.symm
        clear HL HNw HWh HAr HLh HGv hA'
        go_wp2_with fail
        go_ret
        exact ⟨rfl, lay_ex _ _⟩
  · have c0 : (100 : Int) < (z.s.size : Int) := by omega
    obtain ⟨zs, z1, z2, z3⟩ := z
    dsimp only at *
    clear h0 hz
    refine lay_start ?_
    go_enter Tryz.func4, Tryz.ntmps4
    go_wp2_with (go_at_call 5; refine (HAw.out _).mono ?_; rintro e w' ⟨rfl, d1, rfl⟩; rw [lay_bw])
    go_ret
    exact ⟨rfl, lay_ex _ _⟩
theorem law51_BackF (z : StarV) (hz : stR.wf z) (a b : Int) (_ : (Lit.int .i64 a).wf = true) (_ : (Lit.int .i64 b).wf = true) (u v : Int) (_ : (Lit.int .i64 u).wf = true) (_ : (Lit.int .i64 v).wf = true) (x y : Int) (_ : (Lit.int .i64 x).wf = true) (_ : (Lit.int .i64 y).wf = true) (w : World) :
    Calls Tryz.prog 4 #[.agg #[.string z.s, .int .i64 z.sha, .int .i64 z.dec, .int .i64 z.mag], (.agg #[.int .i64 (a), .int .i64 (b)]), (.agg #[.int .i64 (u), .int .i64 (v), .int .i64 (x), .int .i64 (y)])] w fun e w' => e = .returned (.bool true) ∧ ∃ d, w' = bw w d := law51_Back z hz a b u v x y w
end Go.Proofs.YtkhhdpndcidmgaaGreat

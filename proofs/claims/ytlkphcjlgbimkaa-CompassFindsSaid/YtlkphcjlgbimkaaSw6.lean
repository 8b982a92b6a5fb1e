/- The reference's Swing: the loops. -/
import Derived.Test.YtlkphcjlgbimkaaProg
import Derived.Test.YtlkphcjlgbimkaaLay
import Derived.Test.YtlkphcjlgbimkaaRegion
import Derived.Test.YtlkphcjlgbimkaaMix
import Derived.WalkKit
import Derived.WalkSpells
import Derived.WalkLawsBesides
import Derived.Lib.Hide
import Derived.BigQuiet
import Derived.Test.YtlkphcjlgbimkaaSw5
import Derived.Test.YtlkphcjlgbimkaaSw4
import Derived.Test.YtlkphcjlgbimkaaRowB
namespace Go.Proofs.Ytlkphcjlgbimkaa
open Go.RowKit

theorem xy_or {x y : Int} (h : (headB x && headB y) = false) : x < 0 ∨ (¬ x < 0 ∧ 21600000 ≤ x) ∨ (¬ x < 0 ∧ ¬ 21600000 ≤ x ∧ y < 0) ∨ (¬ x < 0 ∧ ¬ 21600000 ≤ x ∧ ¬ y < 0 ∧ 21600000 ≤ y) := by
  simp only [headB, Bool.and_eq_false_iff, decide_eq_false_iff_not] at h
  omega
theorem all_of_nth {l : List Int} {n : Nat} (hl : l.length = n) (h : ∀ i, i < n → headB (nth l i) = true) : l.all headB = true := by
  rw [List.all_eq_true]
  intro x hx
  obtain ⟨i, hi, rfl⟩ := List.getElem_of_mem hx
  have := h i (by omega)
  rwa [show nth l i = l[i] by unfold nth; simp [List.getD, hi]] at this
theorem not_all {l : List Int} {i : Nat} (hi : i < l.length) (h : headB (nth l i) = false) : l.all headB = false := by
  cases e : l.all headB
  · rfl
  · have hm : nth l i ∈ l := by unfold nth; simp [List.getD, hi]
    rw [List.all_eq_true.1 e _ hm] at h; cases h
set_option maxHeartbeats 40000000 in
set_option maxRecDepth 100000 in
theorem ref_Swing_main (v0 v1 : Value) (h b : List Int) (B V : Int) (w : World) (h0 : Sl w v0 h) (h1 : Sl w v1 b) (e1 : h.length = b.length) (e2 : 0 < h.length) (e3 : h.length ≤ 100) (hBV : (headB B && withB V 10800000) = true) :
    Calls Try.prog 7 #[v0, v1, .int .i64 B, .int .i64 V] w (SwgP w (swgL h b B V) (swgE h b B V)) := by
  have hE : swgE h b B V = if h.length ≠ b.length then 3 else if h.length = 0 then 14 else if swgR h b B V = false then 2
    else if OneH (entH h b B V h.length) then (if vB (srtH (entH h b B V h.length) h.length) = true then 0 else 1) else 10 := rfl
  have hL : swgL h b B V = if swgE h b B V = 0 then srtH (entH h b B V h.length) h.length else [] := rfl
  rw [if_neg (fun h => h e1), if_neg (by omega)] at hE
  have hRe : swgR h b B V = (h.all headB && b.all headB) := by
    unfold swgR
    rw [Bool.and_assoc, hBV, Bool.and_true]
  rw [hRe] at hE
  simp only [Bool.and_eq_true] at hBV
  obtain ⟨r2, r3⟩ := hBV
  obtain ⟨B0, B1⟩ := head_bd r2
  obtain ⟨V0, V1⟩ : -10800000 ≤ V ∧ V ≤ 10800000 := by simpa [withB] using r3
  obtain ⟨b0, o0, c0, rfl, -, -, hb0, hr0⟩ := h0.open e2
  obtain ⟨b1, o1, c1, rfl, -, -, hb1, hr1⟩ := h1.open (by omega)
  have t1 : ((h.length : Int) == (b.length : Int)) = true := beq_iff_eq.2 (by omega)
  have t3 : ((h.length : Int) != (b.length : Int)) = false := by rw [bne, t1]; rfl
  rw [← e1] at hr1 t3 ⊢
  have HR0 := Lib.hid hr0
  have HR1 := Lib.hid hr1
  have HE := Lib.hid hE
  have HL := Lib.hid hL
  have HXL := Lib.hid (fun k => entH_len h b B V k)
  have HXA := Lib.hid (fun (k i : Nat) (hi : i < k) => entH_at (h := h) (b := b) (B := B) (V := V) hi)
  have t2 : ((h.length : Int) == 0) = false := beq_eq_false_iff_ne.2 (by omega)
  have HLb : Hid (b.length = h.length) := Lib.hid e1.symm
  clear hE hL r2 r3 hr0 hr1 h0 h1 e1 t1 hRe
  obtain ⟨n, hn⟩ : ∃ n, h.length = n := ⟨_, rfl⟩
  have HLh := Lib.hid hn
  rw [hn] at HR0 HR1 HE HL HLb e2 e3 t2 t3 ⊢
  clear hn
  refine lay_start ?_
  go_enter Try.func7, Try.ntmps7
  go_wp2_with fail
  go_loopw [10] (fun v10 wr' => ∃ (k : Nat) (dd : Ext), k ≤ n ∧ v10 = .int .i64 (k : Int) ∧ wr' = lay w [.inr dd] ∧ ∀ i, i < k → headB (nth h i) = true ∧ headB (nth b i) = true) (fun v10 _ => n - (intOf v10).toNat)
  case atStart => exact ⟨0, noExt _, Nat.zero_le _, rfl, (bw_noExt _).symm, fun i hi => by omega⟩
  case round =>
    obtain ⟨k, dd, hk, rfl, rfl, hok⟩ := hrel
    have HOK := Lib.hid hok
    clear hok
    by_cases hlt : k < n
    · have k0 := HR0.out k hlt
      have k1 := HR1.out k hlt
      have x1 : (k : Int) < (n : Int) := by omega
      cases hxy : (headB (nth h k) && headB (nth b k))
      · have hE1 := HE.out
        have hL1 := HL.out
        have hno : (h.all headB && b.all headB) = false := by
          rcases Bool.and_eq_false_iff.1 hxy with e | e
          · rw [not_all (by rw [HLh.out]; exact hlt) e, Bool.false_and]
          · rw [not_all (by rw [HLb.out]; exact hlt) e, Bool.and_false]
        rw [if_pos hno] at hE1
        rw [hE1, if_neg (by decide)] at hL1
        have HE1 := Lib.hid hE1
        have HL1 := Lib.hid hL1
        have hv := xy_or hxy
        clear hE1 hL1 hno hxy
        generalize nth h k = x at *
        generalize nth b k = y at *
        rcases hv with q0 | ⟨q0, q1⟩ | ⟨q0, q1, q2⟩ | ⟨q0, q1, q2, q3⟩
        all_goals
          go_wp2
          refine bodyPost_ret (v := .tuple #[.slice none 0 0, .int .i64 2]) (by simp [results, Try.results7, go_sem]) rfl ?_
          rw [HL1.out, HE1.out]
          exact swgP_nil w _ 2
      · simp only [Bool.and_eq_true] at hxy
        have HOK2 : Hid (∀ i, i < k + 1 → headB (nth h i) = true ∧ headB (nth b i) = true) := Lib.hid (fun i hi => by
          by_cases e : i = k
          · subst e; exact hxy
          · exact HOK.out i (by omega))
        obtain ⟨p0, p1⟩ := head_bd hxy.1
        obtain ⟨p2, p3⟩ := head_bd hxy.2
        have q0 : ¬ nth h k < 0 := by omega
        have q1 : ¬ 21600000 ≤ nth h k := by omega
        have q2 : ¬ nth b k < 0 := by omega
        have q3 : ¬ 21600000 ≤ nth b k := by omega
        clear hxy
        generalize nth h k = x at *
        generalize nth b k = y at *
        go_wp2_with fail
        go_roundw
        case rel => exact ⟨k + 1, _, by omega, by go_num, rfl, HOK2.out⟩
        case measure => simp [intOf]; omega
    · obtain rfl : k = n := by omega
      have x1 : ¬ (k : Int) < (k : Int) := by omega
      have hall : (h.all headB && b.all headB) = true := by
        rw [all_of_nth HLh.out (fun i hi => (HOK.out i hi).1), all_of_nth HLb.out (fun i hi => (HOK.out i hi).2)]; rfl
      have hE1 := HE.out
      rw [if_neg (by rw [hall]; decide)] at hE1
      have HE1 := Lib.hid hE1
      obtain ⟨E, hEE⟩ : ∃ E, entH h b B V k = E := ⟨_, rfl⟩
      rw [hEE] at HE1 HL
      have HLn : Hid (E.length = k) := Lib.hid (by rw [← hEE]; exact HXL.out k)
      have HEA : Hid (∀ i, i < k → hd E i = nth h i ∧ dv E i = sgnH (B - V - nth b i)) := Lib.hid (fun i hi => by rw [← hEE]; exact HXA.out k i hi)
      clear hE1 HE hall hEE HXL HXA
      go_wp2_with fail
      go_loopw [11, 12] (fun v11 v12 wr' => ∃ (i : Nat) (dd : Ext), i ≤ k ∧ v12 = .int .i64 (i : Int) ∧ wr' = lay w [.inr dd] ∧ (i = 0 → v11 = .slice none 0 0) ∧ SlG chR (lay w [.inr dd]) v11 (srtH E i) ∧ ∀ j, j < i → ∀ y ∈ srtH E j, y.1 ≠ hd E j) (fun _ v12 _ => k - (intOf v12).toNat)
      case atStart => exact ⟨0, dd, Nat.zero_le _, rfl, rfl, fun _ => rfl, SlG.nil _ _, fun j hj => by omega⟩
      case round =>
        obtain ⟨i, de, hi, rfl, rfl, hnil, hsl, hone⟩ := hrel
        have HSl := Lib.hid hsl
        have HOn := Lib.hid hone
        have HNl := Lib.hid hnil
        clear hsl hone hnil
        by_cases hlt2 : i < k
        · have x2 : (i : Int) < (k : Int) := by omega
          have k0 := HR0.out i hlt2
          have k1 := HR1.out i hlt2
          obtain ⟨g0, g1⟩ := HOK.out i hlt2
          obtain ⟨p0, p1⟩ := head_bd g0
          obtain ⟨p2, p3⟩ := head_bd g1
          obtain ⟨ea, eb⟩ := HEA.out i hlt2
          have w1 : IntKind.i64.wrap (B - V) = B - V := IntWalk.i64_in _ (by omega)
          have w2 : IntKind.i64.wrap (B - V - nth b i) = B - V - nth b i := IntWalk.i64_in _ (by omega)
          have HSg := Lib.hid (fun W => (signed_sgn (B - V - nth b i)) ▸ ref05_Signed (B - V - nth b i) W)
          have ls := lit_sgn (B - V - nth b i)
          have HP : Hid ((hd E i, dv E i) = (nth h i, sgnH (B - V - nth b i))) := Lib.hid (by rw [ea, eb])
          clear g0 g1 ea eb
          generalize nth h i = x at *
          generalize nth b i = y at *
          generalize sgnH (B - V - y) = s at *
          go_wp2_with fail
          refine region_mixW [0, 0, 0, 0, 0, 0, 0, 0, 0, 0, 0, 0, 0, 0, 1, 1] (by kernel_rfl) (by kernel_rfl) (by kernel_rfl) ?_
          iterate 14 (refine wpM_quiet (fun K hK => ?_); go_simp; first | (refine hK _ ?_; clear hK K) | (apply Exists.intro; refine ⟨fun _ => ?_, hK _ ?_⟩; (first | (go_at_call 25; exact bqs (HSg.out _) ⟨noExt _, (bw_noExt _).symm⟩)); clear hK K))
          refine wpM_special (fun K hK d0 => ?_)
          go_simp
          refine hK _ _ (lay_in w [_, _] _) ?_
          clear hK K
          refine wpM_special (fun K hK d1 => ?_)
          go_simp
          refine hK _ _ (lay_in w [_, _, _] _) ?_
          clear hK K
          refine wpM_nil ?_
          intro d2
          rw [lay_bw]
          obtain ⟨S, hS⟩ : ∃ S, srtH E i = S := ⟨_, rfl⟩
          have hSl : S.length = i := by rw [← hS]; exact srtH_len (by rw [HLn.out]; omega)
          have hSa : AscH S := by rw [← hS]; exact asc_of_ins i HOn.out
          have HNext : Hid (∀ q, q ≤ i → (∀ j, j < q → hd S j < x) → (q < i → x < hd S q) → srtH E (i + 1) = S.take q ++ [(x, s)] ++ S.drop q ∧ ∀ j, j < i + 1 → ∀ y ∈ srtH E j, y.1 ≠ hd E j) := Lib.hid (fun q hq h1 h2 => by
            have hx : hd E i = x := congrArg Prod.fst HP.out
            have e : srtH E (i + 1) = insH (hd E i, dv E i) (srtH E i) := rfl
            refine ⟨?_, fun j hj => ?_⟩
            · rw [e, HP.out, hS, insH_at (x := (x, s)) (by omega) h1 (fun h => by have := h2 (by omega); show ¬ hd S q < x; omega)]
            · by_cases ej : j = i
              · subst ej
                rw [hS, hx]
                exact ne_all hSa h1 (fun h => h2 (by omega))
              · exact HOn.out j (by omega))
          have HDup : Hid (∀ q, q < i → hd S q = x → ¬ OneH E) := Lib.hid (fun q hq h1 => by
            refine two_ins (l := E) (k := i) (j := q) (by rw [HLn.out]; exact hlt2) hq ?_
            rw [hS, h1]; exact (congrArg Prod.fst HP.out).symm)
          rw [hS] at HSl
          have HSL := Lib.hid hSl
          have HSA := Lib.hid hSa
          have lx : (Lit.int .i64 x).wf = true := by simp [Lit.wf, IntKind.min, IntKind.max, IntKind.bits, IntKind.signed]; omega
          clear hS hSl hSa
          by_cases hi0 : i = 0
          · subst hi0
            have hu := HNl.out rfl
            subst hu
            have hN := HNext.out 0 (Nat.le_refl _) (fun j hj => by omega) (fun h => by omega)
            have hS0 : S = [] := List.eq_nil_of_length_eq_zero HSL.out
            subst hS0
            have HN1 : Hid (srtH E 1 = [] ++ [(x, s)] ++ []) := Lib.hid hN.1
            have HN2 := Lib.hid hN.2
            clear hN HNl
            go_wp2_with fail
            refine wp_loop_rounds 1 ?_
            rw [rounds_succ]
            go_wp2_with fail
            refine region_bw (by kernel_rfl) (by kernel_rfl) ?_
            repeat (go_big_quiet_step ((first | fail)))
            refine wpQuiet_nil ?_
            rintro w' ⟨d3, rfl⟩
            rw [lay_bw]
            go_wp2_with fail
            refine region_bw (by kernel_rfl) (by kernel_rfl) ?_
            repeat (go_big_quiet_step ((first | fail)))
            refine wpQuiet_nil ?_
            rintro w' ⟨d4, rfl⟩
            rw [lay_bw]
            go_wp2_with fail
            refine region_mixB 11 (.q 1 (.q 2 (.q 3 (.q 5 (.q 8 (.q 9 (.q 10 (.two 0 (.two 4 (.one 6 (.one 7 .done)) 6 (.one 4 (.one 7 .done))) 6 (.one 0 (.one 4 (.one 7 .done))))))))))) (by kernel_rfl) (by kernel_rfl) (by kernel_rfl) (by kernel_rfl) (by decide) (by kernel_rfl) ?_
            simp only [List.drop_succ_cons, List.drop_zero]
            iterate 7 (refine wpMB_quiet rfl (fun K hK => ?_); go_simp; refine hK _ ?_; clear hK K)
            refine wpMB_two ?_ ?_
            · refine spB_of rfl (fun K hK dA => ?_)
              go_simp
              refine hK _ _ (by first | exact lay_in w [_] _ | exact lay_in w [_, _] _ | exact lay_in w [_, _, _] _ | exact lay_in w [_, _, _, _] _ | exact lay_in w [_, _, _, _, _] _ | exact lay_in w [_, _, _, _, _, _] _) ?_
              clear hK K
              refine wpMB_two ?_ ?_
              · refine spB_nil chOk rfl rfl _ _ rfl _ [] (lay_belowG (A := [_, _])) (owG_empty' chR (A := []) (B := [_])) rfl rfl ?_
                intro dP
                rw [lay_bw]
                refine wpMB_one ?_
                refine spB_of rfl (fun K hK dB => ?_)
                go_simp
                refine hK _ _ (by first | exact lay_in w [_] _ | exact lay_in w [_, _] _ | exact lay_in w [_, _, _] _ | exact lay_in w [_, _, _, _] _ | exact lay_in w [_, _, _, _, _] _ | exact lay_in w [_, _, _, _, _, _] _) ?_
                clear hK K
                refine wpMB_one ?_
                refine spB_rec chOk rfl rfl _ _ rfl _ [] (x, s) #[.int .i64 x, .int .i64 s] 32 _ (lay_belowG (A := [_, _, _, _, _])) (owG_empty' chR (A := [_, _, _]) (B := [_])) (lay_get w _ 0 _ rfl) rfl rfl rfl (by simp) ⟨lx, ls⟩ ?_
                intro v2 e2 hv2
                have HV2 := Lib.hid hv2
                clear hv2
                rw [lay_bw]
                refine wpMB_done ?_
                intro dz
                rw [lay_bw]
                show wpList _ _ _ _ _ _
                go_wp2_with (at_builtin; refine push_slG chOk rfl _ _ rfl (lay w [.inr d4, .inr d3, .inr d2, .inr d1, .inl (.cells #[.int .i64 x, .int .i64 s] 32 (0, 0)), .inr d0, .inr de]) _ _ _ none 0 0 [] (lay_belowG (A := [_, _])) (HV2.out.bw dz) (SlG.nil _ _) (fun _ => rfl) rfl rfl (by simp) ?_; intro v3 d5 hv3)
                go_roundw
                case rel =>
                  obtain ⟨dF, hdF⟩ := lay_all w [.inr d5, .inr d4, .inr d3, .inr d2, .inr d1, .inl (.cells #[.int .i64 x, .int .i64 s] 32 (0, 0)), .inr d0, .inr de]
                  refine ⟨0 + 1, dF, by omega, by go_num, hdF, fun h => absurd h (by omega), ?_, HN2.out⟩
                  rw [← hdF, HN1.out]
                  exact hv3.sl chOk
                case measure => simp [intOf]; omega
              · refine spB_of rfl (fun K hK dB => ?_)
                go_simp
                refine hK _ _ (by first | exact lay_in w [_] _ | exact lay_in w [_, _] _ | exact lay_in w [_, _, _] _ | exact lay_in w [_, _, _, _] _ | exact lay_in w [_, _, _, _, _] _ | exact lay_in w [_, _, _, _, _, _] _) ?_
                clear hK K
                refine wpMB_one ?_
                refine spB_nil chOk rfl rfl _ _ rfl _ [] (lay_belowG (A := [_, _, _, _])) (owG_empty' chR (A := [_, _]) (B := [_])) rfl rfl ?_
                intro dP
                rw [lay_bw]
                refine wpMB_one ?_
                refine spB_rec chOk rfl rfl _ _ rfl _ [] (x, s) #[.int .i64 x, .int .i64 s] 32 _ (lay_belowG (A := [_, _, _, _, _])) (owG_empty' chR (A := [_, _, _]) (B := [_])) (lay_get w _ 1 _ rfl) rfl rfl rfl (by simp) ⟨lx, ls⟩ ?_
                intro v2 e2 hv2
                have HV2 := Lib.hid hv2
                clear hv2
                rw [lay_bw]
                refine wpMB_done ?_
                intro dz
                rw [lay_bw]
                show wpList _ _ _ _ _ _
                go_wp2_with (at_builtin; refine push_slG chOk rfl _ _ rfl (lay w [.inr d4, .inr d3, .inr d2, .inr d1, .inl (.cells #[.int .i64 x, .int .i64 s] 32 (0, 0)), .inr d0, .inr de]) _ _ _ none 0 0 [] (lay_belowG (A := [_, _])) (HV2.out.bw dz) (SlG.nil _ _) (fun _ => rfl) rfl rfl (by simp) ?_; intro v3 d5 hv3)
                go_roundw
                case rel =>
                  obtain ⟨dF, hdF⟩ := lay_all w [.inr d5, .inr d4, .inr d3, .inr d2, .inr d1, .inl (.cells #[.int .i64 x, .int .i64 s] 32 (0, 0)), .inr d0, .inr de]
                  refine ⟨0 + 1, dF, by omega, by go_num, hdF, fun h => absurd h (by omega), ?_, HN2.out⟩
                  rw [← hdF, HN1.out]
                  exact hv3.sl chOk
                case measure => simp [intOf]; omega
            · refine spB_of rfl (fun K hK dB => ?_)
              go_simp
              refine hK _ _ (by first | exact lay_in w [_] _ | exact lay_in w [_, _] _ | exact lay_in w [_, _, _] _ | exact lay_in w [_, _, _, _] _ | exact lay_in w [_, _, _, _, _] _ | exact lay_in w [_, _, _, _, _, _] _) ?_
              clear hK K
              refine wpMB_one ?_
              refine spB_of rfl (fun K hK dA => ?_)
              go_simp
              refine hK _ _ (by first | exact lay_in w [_] _ | exact lay_in w [_, _] _ | exact lay_in w [_, _, _] _ | exact lay_in w [_, _, _, _] _ | exact lay_in w [_, _, _, _, _] _ | exact lay_in w [_, _, _, _, _, _] _) ?_
              clear hK K
              refine wpMB_one ?_
              refine spB_nil chOk rfl rfl _ _ rfl _ [] (lay_belowG (A := [_, _, _, _])) (owG_empty' chR (A := []) (B := [_, _, _])) rfl rfl ?_
              intro dP
              rw [lay_bw]
              refine wpMB_one ?_
              refine spB_rec chOk rfl rfl _ _ rfl _ [] (x, s) #[.int .i64 x, .int .i64 s] 32 _ (lay_belowG (A := [_, _, _, _, _])) (owG_empty' chR (A := [_]) (B := [_, _, _])) (lay_get w _ 3 _ rfl) rfl rfl rfl (by simp) ⟨lx, ls⟩ ?_
              intro v2 e2 hv2
              have HV2 := Lib.hid hv2
              clear hv2
              rw [lay_bw]
              refine wpMB_done ?_
              intro dz
              rw [lay_bw]
              show wpList _ _ _ _ _ _
              go_wp2_with (at_builtin; refine push_slG chOk rfl _ _ rfl (lay w [.inr d4, .inr d3, .inr d2, .inr d1, .inl (.cells #[.int .i64 x, .int .i64 s] 32 (0, 0)), .inr d0, .inr de]) _ _ _ none 0 0 [] (lay_belowG (A := [_, _])) (HV2.out.bw dz) (SlG.nil _ _) (fun _ => rfl) rfl rfl (by simp) ?_; intro v3 d5 hv3)
              go_roundw
              case rel =>
                obtain ⟨dF, hdF⟩ := lay_all w [.inr d5, .inr d4, .inr d3, .inr d2, .inr d1, .inl (.cells #[.int .i64 x, .int .i64 s] 32 (0, 0)), .inr d0, .inr de]
                refine ⟨0 + 1, dF, by omega, by go_num, hdF, fun h => absurd h (by omega), ?_, HN2.out⟩
                rw [← hdF, HN1.out]
                exact hv3.sl chOk
              case measure => simp [intOf]; omega
          · have hi1 : 0 < i := by omega
            obtain ⟨b2, o2, c2, hform, hcap, -, hcell⟩ := HSl.out.open (by rw [HSL.out]; exact hi1)
            rw [HSL.out] at hform hcap
            subst hform
            obtain ⟨hc1, hc2⟩ := hcap
            have HCe : Hid (∀ q, q < i → ∀ A, (lay w (A ++ [.inr de])).cell? ⟨b2, o2 + q * 2, none⟩ = some (.int .i64 (hd S q))) := Lib.hid (fun q hq A => by
              obtain ⟨b3, o3, c3, hf3, -, -, hcell3⟩ := (slG_on (A := A) HSl.out).open (by rw [HSL.out]; exact hi1)
              cases hf3
              exact hcell3 q _ (pair_eq (by rw [HSL.out]; exact hq)) 0 _ rfl)
            have HCut : Hid (∀ q, q ≤ i → SlG chR (lay w [.inr de]) (.slice (some ⟨b2, o2, none⟩) q c2) (S.take q)) := Lib.hid (fun q hq => by
              have h5 := slG_cut (f := 0) (k := q) (c := c2) HSl.out (by rw [HSL.out]; omega) (by omega)
              rw [Nat.zero_mul, Nat.add_zero, List.drop_zero] at h5
              exact h5)
            have HCut2 : Hid (∀ q, q ≤ i → SlG chR (lay w [.inr de]) (.slice (some ⟨b2, o2 + q * 2, none⟩) (i - q) (c2 - q)) (S.drop q)) := Lib.hid (fun q hq => by
              have h5 := slG_cut (f := q) (k := i - q) (c := c2 - q) HSl.out (by rw [HSL.out]; omega) (by omega)
              rw [List.take_of_length_le (by rw [List.length_drop, HSL.out]; exact Nat.le_refl _)] at h5
              exact h5)
            clear hcell HNl
            have x4 : (i : Int) ≤ (c2 : Int) := by omega
            go_wp2_with fail
            go_loopw [14] (fun v14 wr' => ∃ (q : Nat) (e3 : Ext), q ≤ i ∧ v14 = .int .i64 (q : Int) ∧ wr' = lay w [.inr e3, .inl (.cells #[.int .i64 x, .int .i64 s] 32 (0, 0)), .inr d0, .inr de] ∧ ∀ j, j < q → hd S j < x) (fun v14 _ => i - (intOf v14).toNat)
            case atStart => exact ⟨0, _, Nat.zero_le _, rfl, Classical.choose_spec (lay_fold w [_, _] _), fun j hj => by omega⟩
            case round =>
              obtain ⟨q, e3, hqi, rfl, rfl, hlow⟩ := hrel
              have HLow := Lib.hid hlow
              clear hlow
              have HC1 := Lib.hid (HCut.out q hqi)
              have HC2 := Lib.hid (HCut2.out q hqi)
              have HT1 : Hid (([] : Tl).length + (S.take q).length ≤ 1000000000) := Lib.hid (by rw [List.length_take, HSL.out]; simp only [List.length_nil]; omega)
              have HT2 : Hid (([] ++ S.take q : Tl).length ≤ 100000000) := Lib.hid (by rw [List.nil_append, List.length_take, HSL.out]; omega)
              have HT3 : Hid (([] ++ S.take q ++ [(x, s)] : Tl).length + (S.drop q).length ≤ 1000000000) := Lib.hid (by rw [List.nil_append, List.length_append, List.length_take, List.length_drop, HSL.out]; simp only [List.length_singleton]; omega)
              have x3 : (q : Int) ≤ (i : Int) := by omega
              have x5 : (q : Int) ≤ (c2 : Int) := by omega
              have x6 : (0 : Int) ≤ (q : Int) := by omega
              by_cases hq : q < i
              · have x7 : (q : Int) < (i : Int) := by omega
                have t7 : decide ((q : Int) < (i : Int)) = true := decide_eq_true x7
                have x8 : q < c2 := by omega
                have x9 : ¬ c2 = q := by omega
                have c0 : ∀ z, (lay w [.inr z, .inr e3, .inl (.cells #[.int .i64 x, .int .i64 s] 32 (0, 0)), .inr d0, .inr de]).cell? ⟨b2, o2 + q * 2, none⟩ = some (.int .i64 (hd S q)) := fun z => HCe.out q hq [_, _, _, _]
                have c1 : ∀ y z, (lay w [.inr y, .inr z, .inr e3, .inl (.cells #[.int .i64 x, .int .i64 s] 32 (0, 0)), .inr d0, .inr de]).cell? ⟨b2, o2 + q * 2, none⟩ = some (.int .i64 (hd S q)) := fun y z => HCe.out q hq [_, _, _, _, _]
                by_cases hl : hd S q < x
                · have t8 : decide (hd S q < x) = true := decide_eq_true hl
                  have HL2 : Hid (∀ j, j < q + 1 → hd S j < x) := Lib.hid (fun j hj => by
                    by_cases e : j = q
                    · subst e; exact hl
                    · exact HLow.out j (by omega))
                  generalize hd S q = X at *
                  go_wp2_with fail
                  refine region_bw (by kernel_rfl) (by kernel_rfl) ?_
                  repeat (go_big_quiet_step ((first | fail)))
                  refine wpQuiet_nil ?_
                  rintro w' ⟨d3, rfl⟩
                  rw [lay_bw]
                  go_wp2_with fail
                  go_roundw
                  case rel => exact ⟨q + 1, _, by omega, by go_num, Classical.choose_spec (lay_fold w [_, _] _), HL2.out⟩
                  case measure => simp [intOf]; omega
                · have t8 : decide (hd S q < x) = false := decide_eq_false hl
                  by_cases heq : hd S q = x
                  · have t9 : (hd S q == x) = true := beq_iff_eq.2 heq
                    have hno := HDup.out q hq heq
                    have hE1 := HE1.out
                    rw [if_neg hno] at hE1
                    have hL1 := HL.out
                    rw [hE1, if_neg (by decide)] at hL1
                    have HE2 := Lib.hid hE1
                    have HL2 := Lib.hid hL1
                    clear hno hE1 hL1 heq hl
                    generalize hd S q = X at *
                    go_wp2_with fail
                    refine region_bw (by kernel_rfl) (by kernel_rfl) ?_
                    repeat (go_big_quiet_step ((first | fail)))
                    refine wpQuiet_nil ?_
                    rintro w' ⟨d3, rfl⟩
                    rw [lay_bw]
                    go_wp2_with fail
                    refine region_bw (by kernel_rfl) (by kernel_rfl) ?_
                    repeat (go_big_quiet_step ((first | fail)))
                    refine wpQuiet_nil ?_
                    rintro w' ⟨d4, rfl⟩
                    rw [lay_bw]
                    go_wp2_with fail
                    refine bodyPost_ret (v := .tuple #[.slice none 0 0, .int .i64 10]) (by simp [results, Try.results7, go_sem]) rfl ?_
                    rw [HL2.out, HE2.out]
                    exact swgP_nil w _ 10
                  · have t9 : (hd S q == x) = false := beq_eq_false_iff_ne.2 heq
                    have hN := HNext.out q hqi HLow.out (fun _ => by omega)
                    have HN1 : Hid (srtH E (i + 1) = [] ++ S.take q ++ [(x, s)] ++ S.drop q) := Lib.hid hN.1
                    have HN2 := Lib.hid hN.2
                    clear hN heq hl
                    generalize hd S q = X at *
                    go_wp2_with fail
                    refine region_bw (by kernel_rfl) (by kernel_rfl) ?_
                    repeat (go_big_quiet_step ((first | fail)))
                    refine wpQuiet_nil ?_
                    rintro w' ⟨d3, rfl⟩
                    rw [lay_bw]
                    go_wp2_with fail
                    refine region_bw (by kernel_rfl) (by kernel_rfl) ?_
                    repeat (go_big_quiet_step ((first | fail)))
                    refine wpQuiet_nil ?_
                    rintro w' ⟨d4, rfl⟩
                    rw [lay_bw]
                    go_wp2_with fail
                    refine region_mixB 11 (.q 1 (.q 2 (.q 3 (.q 5 (.q 8 (.q 9 (.q 10 (.two 0 (.two 4 (.one 6 (.one 7 .done)) 6 (.one 4 (.one 7 .done))) 6 (.one 0 (.one 4 (.one 7 .done))))))))))) (by kernel_rfl) (by kernel_rfl) (by kernel_rfl) (by kernel_rfl) (by decide) (by kernel_rfl) ?_
                    simp only [List.drop_succ_cons, List.drop_zero]
                    iterate 7 (refine wpMB_quiet rfl (fun K hK => ?_); go_simp; refine hK _ ?_; clear hK K)
                    refine wpMB_two ?_ ?_
                    · refine spB_of rfl (fun K hK dA => ?_)
                      go_simp
                      refine hK _ _ (by first | exact lay_in w [_] _ | exact lay_in w [_, _] _ | exact lay_in w [_, _, _] _ | exact lay_in w [_, _, _, _] _ | exact lay_in w [_, _, _, _, _] _ | exact lay_in w [_, _, _, _, _, _] _) ?_
                      clear hK K
                      refine wpMB_two ?_ ?_
                      · refine spB_sl chOk rfl rfl _ _ rfl _ [] ⟨b2, o2, none⟩ q _ (S.take q) (lay_belowG (A := [_, _])) (owG_empty' chR (A := []) (B := [_])) (slG_on (A := [_, _, _, _, _, _, _]) HC1.out) rfl rfl (HT1.out) ?_
                        intro v1 e1 hv1 _
                        have HV1 := Lib.hid hv1
                        clear hv1
                        rw [lay_bw]
                        refine wpMB_one ?_
                        refine spB_of rfl (fun K hK dB => ?_)
                        go_simp
                        refine hK _ _ (by first | exact lay_in w [_] _ | exact lay_in w [_, _] _ | exact lay_in w [_, _, _] _ | exact lay_in w [_, _, _, _] _ | exact lay_in w [_, _, _, _, _] _ | exact lay_in w [_, _, _, _, _, _] _) ?_
                        clear hK K
                        refine wpMB_one ?_
                        refine spB_rec chOk rfl rfl _ _ rfl _ ([] ++ S.take q) (x, s) #[.int .i64 x, .int .i64 s] 32 _ (lay_belowG (A := [_, _, _])) (owG_on (A := [_, _]) HV1.out) (lay_get w _ 0 _ rfl) rfl rfl rfl HT2.out ⟨lx, ls⟩ ?_
                        intro v2 e2 hv2
                        have HV2 := Lib.hid hv2
                        clear hv2
                        rw [lay_bw]
                        refine wpMB_done ?_
                        intro dz
                        rw [lay_bw]
                        show wpList _ _ _ _ _ _
                        go_wp2_with (at_builtin; refine push_slG chOk rfl _ _ rfl (lay w [.inr d4, .inr d3, .inr e3, .inl (.cells #[.int .i64 x, .int .i64 s] 32 (0, 0)), .inr d0, .inr de]) _ _ _ (some ⟨b2, o2 + q * 2, none⟩) (i - q) (c2 - q) (S.drop q) (lay_belowG (A := [_, _])) (owG_on (A := [.inr dz]) (B := [.inr e2, .inr d4, .inr d3, .inr e3, .inl (.cells #[.int .i64 x, .int .i64 s] 32 (0, 0)), .inr d0, .inr de]) HV2.out) (slG_on (A := [_, _, _, _, _, _, _]) HC2.out) (fun h => by cases h) rfl rfl HT3.out ?_; intro v3 d5 hv3)
                        go_roundw
                        case rel =>
                          obtain ⟨dF, hdF⟩ := lay_all w [.inr d5, .inr d4, .inr d3, .inr e3, .inl (.cells #[.int .i64 x, .int .i64 s] 32 (0, 0)), .inr d0, .inr de]
                          refine ⟨i + 1, dF, by omega, by go_num, hdF, fun h => absurd h (by omega), ?_, HN2.out⟩
                          rw [← hdF, HN1.out]
                          exact hv3.sl chOk
                        case measure => simp [intOf]; omega
                      · refine spB_of rfl (fun K hK dB => ?_)
                        go_simp
                        refine hK _ _ (by first | exact lay_in w [_] _ | exact lay_in w [_, _] _ | exact lay_in w [_, _, _] _ | exact lay_in w [_, _, _, _] _ | exact lay_in w [_, _, _, _, _] _ | exact lay_in w [_, _, _, _, _, _] _) ?_
                        clear hK K
                        refine wpMB_one ?_
                        refine spB_sl chOk rfl rfl _ _ rfl _ [] ⟨b2, o2, none⟩ q _ (S.take q) (lay_belowG (A := [_, _, _, _])) (owG_empty' chR (A := [_, _]) (B := [_])) (slG_on (A := [_, _, _, _, _, _, _, _, _]) HC1.out) rfl rfl (HT1.out) ?_
                        intro v1 e1 hv1 hk1
                        have HV1 := Lib.hid hv1
                        have hB := lay_get w [.inl (.cells #[.int .i64 x, .int .i64 s] 32 (0, 0)), .inr dB, .inl (.cells #[] 32 (0, 0)), .inr dA, .inr d4, .inr d3, .inr e3, .inl (.cells #[.int .i64 x, .int .i64 s] 32 (0, 0)), .inr d0, .inr de] 0 _ rfl
                        have HB1 := Lib.hid ((hk1 _ (Array.getElem?_eq_some_iff.1 hB).1 (by simp only [Value.ownBlock, shp, posn, List.cons_append, List.nil_append, Nat.zero_add, List.drop_succ_cons, List.drop_zero, List.sum_cons, ne_eq, Option.some.injEq]; omega)).trans hB)
                        clear hv1 hk1 hB
                        rw [lay_bw]
                        refine wpMB_one ?_
                        refine spB_rec chOk rfl rfl _ _ rfl _ ([] ++ S.take q) (x, s) #[.int .i64 x, .int .i64 s] 32 _ (lay_belowG (A := [_])) (owG_on (A := []) HV1.out) (HB1.out) rfl rfl rfl HT2.out ⟨lx, ls⟩ ?_
                        intro v2 e2 hv2
                        have HV2 := Lib.hid hv2
                        clear hv2
                        rw [lay_bw]
                        refine wpMB_done ?_
                        intro dz
                        rw [lay_bw]
                        show wpList _ _ _ _ _ _
                        go_wp2_with (at_builtin; refine push_slG chOk rfl _ _ rfl (lay w [.inr d4, .inr d3, .inr e3, .inl (.cells #[.int .i64 x, .int .i64 s] 32 (0, 0)), .inr d0, .inr de]) _ _ _ (some ⟨b2, o2 + q * 2, none⟩) (i - q) (c2 - q) (S.drop q) (lay_belowG (A := [_, _])) (owG_on (A := [.inr dz]) (B := [.inr e2, .inr d4, .inr d3, .inr e3, .inl (.cells #[.int .i64 x, .int .i64 s] 32 (0, 0)), .inr d0, .inr de]) HV2.out) (slG_on (A := [_, _, _, _, _, _, _]) HC2.out) (fun h => by cases h) rfl rfl HT3.out ?_; intro v3 d5 hv3)
                        go_roundw
                        case rel =>
                          obtain ⟨dF, hdF⟩ := lay_all w [.inr d5, .inr d4, .inr d3, .inr e3, .inl (.cells #[.int .i64 x, .int .i64 s] 32 (0, 0)), .inr d0, .inr de]
                          refine ⟨i + 1, dF, by omega, by go_num, hdF, fun h => absurd h (by omega), ?_, HN2.out⟩
                          rw [← hdF, HN1.out]
                          exact hv3.sl chOk
                        case measure => simp [intOf]; omega
                    · refine spB_of rfl (fun K hK dB => ?_)
                      go_simp
                      refine hK _ _ (by first | exact lay_in w [_] _ | exact lay_in w [_, _] _ | exact lay_in w [_, _, _] _ | exact lay_in w [_, _, _, _] _ | exact lay_in w [_, _, _, _, _] _ | exact lay_in w [_, _, _, _, _, _] _) ?_
                      clear hK K
                      refine wpMB_one ?_
                      refine spB_of rfl (fun K hK dA => ?_)
                      go_simp
                      refine hK _ _ (by first | exact lay_in w [_] _ | exact lay_in w [_, _] _ | exact lay_in w [_, _, _] _ | exact lay_in w [_, _, _, _] _ | exact lay_in w [_, _, _, _, _] _ | exact lay_in w [_, _, _, _, _, _] _) ?_
                      clear hK K
                      refine wpMB_one ?_
                      refine spB_sl chOk rfl rfl _ _ rfl _ [] ⟨b2, o2, none⟩ q _ (S.take q) (lay_belowG (A := [_, _, _, _])) (owG_empty' chR (A := []) (B := [_, _, _])) (slG_on (A := [_, _, _, _, _, _, _, _, _]) HC1.out) rfl rfl (HT1.out) ?_
                      intro v1 e1 hv1 hk1
                      have HV1 := Lib.hid hv1
                      have hB := lay_get w [.inl (.cells #[] 32 (0, 0)), .inr dA, .inl (.cells #[.int .i64 x, .int .i64 s] 32 (0, 0)), .inr dB, .inr d4, .inr d3, .inr e3, .inl (.cells #[.int .i64 x, .int .i64 s] 32 (0, 0)), .inr d0, .inr de] 2 _ rfl
                      have HB1 := Lib.hid ((hk1 _ (Array.getElem?_eq_some_iff.1 hB).1 (by simp only [Value.ownBlock, shp, posn, List.cons_append, List.nil_append, Nat.reduceAdd, List.drop_succ_cons, List.drop_zero, List.sum_cons, ne_eq, Option.some.injEq]; omega)).trans hB)
                      clear hv1 hk1 hB
                      rw [lay_bw]
                      refine wpMB_one ?_
                      refine spB_rec chOk rfl rfl _ _ rfl _ ([] ++ S.take q) (x, s) #[.int .i64 x, .int .i64 s] 32 _ (lay_belowG (A := [_])) (owG_on (A := []) HV1.out) (HB1.out) rfl rfl rfl HT2.out ⟨lx, ls⟩ ?_
                      intro v2 e2 hv2
                      have HV2 := Lib.hid hv2
                      clear hv2
                      rw [lay_bw]
                      refine wpMB_done ?_
                      intro dz
                      rw [lay_bw]
                      show wpList _ _ _ _ _ _
                      go_wp2_with (at_builtin; refine push_slG chOk rfl _ _ rfl (lay w [.inr d4, .inr d3, .inr e3, .inl (.cells #[.int .i64 x, .int .i64 s] 32 (0, 0)), .inr d0, .inr de]) _ _ _ (some ⟨b2, o2 + q * 2, none⟩) (i - q) (c2 - q) (S.drop q) (lay_belowG (A := [_, _])) (owG_on (A := [.inr dz]) (B := [.inr e2, .inr d4, .inr d3, .inr e3, .inl (.cells #[.int .i64 x, .int .i64 s] 32 (0, 0)), .inr d0, .inr de]) HV2.out) (slG_on (A := [_, _, _, _, _, _, _]) HC2.out) (fun h => by cases h) rfl rfl HT3.out ?_; intro v3 d5 hv3)
                      go_roundw
                      case rel =>
                        obtain ⟨dF, hdF⟩ := lay_all w [.inr d5, .inr d4, .inr d3, .inr e3, .inl (.cells #[.int .i64 x, .int .i64 s] 32 (0, 0)), .inr d0, .inr de]
                        refine ⟨i + 1, dF, by omega, by go_num, hdF, fun h => absurd h (by omega), ?_, HN2.out⟩
                        rw [← hdF, HN1.out]
                        exact hv3.sl chOk
                      case measure => simp [intOf]; omega
              · obtain rfl : q = i := by omega
                have x7 : ¬ (q : Int) < (q : Int) := by omega
                have t7 : decide ((q : Int) < (q : Int)) = false := decide_eq_false x7
                have hN := HNext.out q (Nat.le_refl _) HLow.out (fun h => absurd h (Nat.lt_irrefl _))
                have HN1 : Hid (srtH E (q + 1) = [] ++ S.take q ++ [(x, s)] ++ S.drop q) := Lib.hid hN.1
                have HN2 := Lib.hid hN.2
                clear hN
                by_cases hcq : c2 = q
                · obtain rfl : q = c2 := hcq.symm
                  have HC3 : ∀ W, Hid (SlG chR W (.slice (some ⟨b2, o2, none⟩) 0 0) (S.drop q)) := fun W => Lib.hid (by rw [List.drop_of_length_le (by rw [HSL.out]; exact Nat.le_refl _)]; exact slG_none (by omega))
                  go_wp2_with fail
                  refine region_bw (by kernel_rfl) (by kernel_rfl) ?_
                  repeat (go_big_quiet_step ((first | fail)))
                  refine wpQuiet_nil ?_
                  rintro w' ⟨d3, rfl⟩
                  rw [lay_bw]
                  go_wp2_with fail
                  refine region_bw (by kernel_rfl) (by kernel_rfl) ?_
                  repeat (go_big_quiet_step ((first | fail)))
                  refine wpQuiet_nil ?_
                  rintro w' ⟨d4, rfl⟩
                  rw [lay_bw]
                  go_wp2_with fail
                  refine region_mixB 11 (.q 1 (.q 2 (.q 3 (.q 5 (.q 8 (.q 9 (.q 10 (.two 0 (.two 4 (.one 6 (.one 7 .done)) 6 (.one 4 (.one 7 .done))) 6 (.one 0 (.one 4 (.one 7 .done))))))))))) (by kernel_rfl) (by kernel_rfl) (by kernel_rfl) (by kernel_rfl) (by decide) (by kernel_rfl) ?_
                  simp only [List.drop_succ_cons, List.drop_zero]
                  iterate 7 (refine wpMB_quiet rfl (fun K hK => ?_); go_simp; refine hK _ ?_; clear hK K)
                  refine wpMB_two ?_ ?_
                  · refine spB_of rfl (fun K hK dA => ?_)
                    go_simp
                    refine hK _ _ (by first | exact lay_in w [_] _ | exact lay_in w [_, _] _ | exact lay_in w [_, _, _] _ | exact lay_in w [_, _, _, _] _ | exact lay_in w [_, _, _, _, _] _ | exact lay_in w [_, _, _, _, _, _] _) ?_
                    clear hK K
                    refine wpMB_two ?_ ?_
                    · refine spB_sl chOk rfl rfl _ _ rfl _ [] ⟨b2, o2, none⟩ q _ (S.take q) (lay_belowG (A := [_, _])) (owG_empty' chR (A := []) (B := [_])) (slG_on (A := [_, _, _, _, _, _, _]) HC1.out) rfl rfl (HT1.out) ?_
                      intro v1 e1 hv1 _
                      have HV1 := Lib.hid hv1
                      clear hv1
                      rw [lay_bw]
                      refine wpMB_one ?_
                      refine spB_of rfl (fun K hK dB => ?_)
                      go_simp
                      refine hK _ _ (by first | exact lay_in w [_] _ | exact lay_in w [_, _] _ | exact lay_in w [_, _, _] _ | exact lay_in w [_, _, _, _] _ | exact lay_in w [_, _, _, _, _] _ | exact lay_in w [_, _, _, _, _, _] _) ?_
                      clear hK K
                      refine wpMB_one ?_
                      refine spB_rec chOk rfl rfl _ _ rfl _ ([] ++ S.take q) (x, s) #[.int .i64 x, .int .i64 s] 32 _ (lay_belowG (A := [_, _, _])) (owG_on (A := [_, _]) HV1.out) (lay_get w _ 0 _ rfl) rfl rfl rfl HT2.out ⟨lx, ls⟩ ?_
                      intro v2 e2 hv2
                      have HV2 := Lib.hid hv2
                      clear hv2
                      rw [lay_bw]
                      refine wpMB_done ?_
                      intro dz
                      rw [lay_bw]
                      show wpList _ _ _ _ _ _
                      go_wp2_with (at_builtin; refine push_slG chOk rfl _ _ rfl (lay w [.inr d4, .inr d3, .inr e3, .inl (.cells #[.int .i64 x, .int .i64 s] 32 (0, 0)), .inr d0, .inr de]) _ _ _ (some ⟨b2, o2, none⟩) 0 0 (S.drop q) (lay_belowG (A := [_, _])) (owG_on (A := [.inr dz]) (B := [.inr e2, .inr d4, .inr d3, .inr e3, .inl (.cells #[.int .i64 x, .int .i64 s] 32 (0, 0)), .inr d0, .inr de]) HV2.out) (HC3 _).out (fun h => by cases h) rfl rfl HT3.out ?_; intro v3 d5 hv3)
                      go_roundw
                      case rel =>
                        obtain ⟨dF, hdF⟩ := lay_all w [.inr d5, .inr d4, .inr d3, .inr e3, .inl (.cells #[.int .i64 x, .int .i64 s] 32 (0, 0)), .inr d0, .inr de]
                        refine ⟨q + 1, dF, by omega, by go_num, hdF, fun h => absurd h (by omega), ?_, HN2.out⟩
                        rw [← hdF, HN1.out]
                        exact hv3.sl chOk
                      case measure => simp [intOf]; omega
                    · refine spB_of rfl (fun K hK dB => ?_)
                      go_simp
                      refine hK _ _ (by first | exact lay_in w [_] _ | exact lay_in w [_, _] _ | exact lay_in w [_, _, _] _ | exact lay_in w [_, _, _, _] _ | exact lay_in w [_, _, _, _, _] _ | exact lay_in w [_, _, _, _, _, _] _) ?_
                      clear hK K
                      refine wpMB_one ?_
                      refine spB_sl chOk rfl rfl _ _ rfl _ [] ⟨b2, o2, none⟩ q _ (S.take q) (lay_belowG (A := [_, _, _, _])) (owG_empty' chR (A := [_, _]) (B := [_])) (slG_on (A := [_, _, _, _, _, _, _, _, _]) HC1.out) rfl rfl (HT1.out) ?_
                      intro v1 e1 hv1 hk1
                      have HV1 := Lib.hid hv1
                      have hB := lay_get w [.inl (.cells #[.int .i64 x, .int .i64 s] 32 (0, 0)), .inr dB, .inl (.cells #[] 32 (0, 0)), .inr dA, .inr d4, .inr d3, .inr e3, .inl (.cells #[.int .i64 x, .int .i64 s] 32 (0, 0)), .inr d0, .inr de] 0 _ rfl
                      have HB1 := Lib.hid ((hk1 _ (Array.getElem?_eq_some_iff.1 hB).1 (by simp only [Value.ownBlock, shp, posn, List.cons_append, List.nil_append, Nat.zero_add, List.drop_succ_cons, List.drop_zero, List.sum_cons, ne_eq, Option.some.injEq]; omega)).trans hB)
                      clear hv1 hk1 hB
                      rw [lay_bw]
                      refine wpMB_one ?_
                      refine spB_rec chOk rfl rfl _ _ rfl _ ([] ++ S.take q) (x, s) #[.int .i64 x, .int .i64 s] 32 _ (lay_belowG (A := [_])) (owG_on (A := []) HV1.out) (HB1.out) rfl rfl rfl HT2.out ⟨lx, ls⟩ ?_
                      intro v2 e2 hv2
                      have HV2 := Lib.hid hv2
                      clear hv2
                      rw [lay_bw]
                      refine wpMB_done ?_
                      intro dz
                      rw [lay_bw]
                      show wpList _ _ _ _ _ _
                      go_wp2_with (at_builtin; refine push_slG chOk rfl _ _ rfl (lay w [.inr d4, .inr d3, .inr e3, .inl (.cells #[.int .i64 x, .int .i64 s] 32 (0, 0)), .inr d0, .inr de]) _ _ _ (some ⟨b2, o2, none⟩) 0 0 (S.drop q) (lay_belowG (A := [_, _])) (owG_on (A := [.inr dz]) (B := [.inr e2, .inr d4, .inr d3, .inr e3, .inl (.cells #[.int .i64 x, .int .i64 s] 32 (0, 0)), .inr d0, .inr de]) HV2.out) (HC3 _).out (fun h => by cases h) rfl rfl HT3.out ?_; intro v3 d5 hv3)
                      go_roundw
                      case rel =>
                        obtain ⟨dF, hdF⟩ := lay_all w [.inr d5, .inr d4, .inr d3, .inr e3, .inl (.cells #[.int .i64 x, .int .i64 s] 32 (0, 0)), .inr d0, .inr de]
                        refine ⟨q + 1, dF, by omega, by go_num, hdF, fun h => absurd h (by omega), ?_, HN2.out⟩
                        rw [← hdF, HN1.out]
                        exact hv3.sl chOk
                      case measure => simp [intOf]; omega
                  · refine spB_of rfl (fun K hK dB => ?_)
                    go_simp
                    refine hK _ _ (by first | exact lay_in w [_] _ | exact lay_in w [_, _] _ | exact lay_in w [_, _, _] _ | exact lay_in w [_, _, _, _] _ | exact lay_in w [_, _, _, _, _] _ | exact lay_in w [_, _, _, _, _, _] _) ?_
                    clear hK K
                    refine wpMB_one ?_
                    refine spB_of rfl (fun K hK dA => ?_)
                    go_simp
                    refine hK _ _ (by first | exact lay_in w [_] _ | exact lay_in w [_, _] _ | exact lay_in w [_, _, _] _ | exact lay_in w [_, _, _, _] _ | exact lay_in w [_, _, _, _, _] _ | exact lay_in w [_, _, _, _, _, _] _) ?_
                    clear hK K
                    refine wpMB_one ?_
                    refine spB_sl chOk rfl rfl _ _ rfl _ [] ⟨b2, o2, none⟩ q _ (S.take q) (lay_belowG (A := [_, _, _, _])) (owG_empty' chR (A := []) (B := [_, _, _])) (slG_on (A := [_, _, _, _, _, _, _, _, _]) HC1.out) rfl rfl (HT1.out) ?_
                    intro v1 e1 hv1 hk1
                    have HV1 := Lib.hid hv1
                    have hB := lay_get w [.inl (.cells #[] 32 (0, 0)), .inr dA, .inl (.cells #[.int .i64 x, .int .i64 s] 32 (0, 0)), .inr dB, .inr d4, .inr d3, .inr e3, .inl (.cells #[.int .i64 x, .int .i64 s] 32 (0, 0)), .inr d0, .inr de] 2 _ rfl
                    have HB1 := Lib.hid ((hk1 _ (Array.getElem?_eq_some_iff.1 hB).1 (by simp only [Value.ownBlock, shp, posn, List.cons_append, List.nil_append, Nat.reduceAdd, List.drop_succ_cons, List.drop_zero, List.sum_cons, ne_eq, Option.some.injEq]; omega)).trans hB)
                    clear hv1 hk1 hB
                    rw [lay_bw]
                    refine wpMB_one ?_
                    refine spB_rec chOk rfl rfl _ _ rfl _ ([] ++ S.take q) (x, s) #[.int .i64 x, .int .i64 s] 32 _ (lay_belowG (A := [_])) (owG_on (A := []) HV1.out) (HB1.out) rfl rfl rfl HT2.out ⟨lx, ls⟩ ?_
                    intro v2 e2 hv2
                    have HV2 := Lib.hid hv2
                    clear hv2
                    rw [lay_bw]
                    refine wpMB_done ?_
                    intro dz
                    rw [lay_bw]
                    show wpList _ _ _ _ _ _
                    go_wp2_with (at_builtin; refine push_slG chOk rfl _ _ rfl (lay w [.inr d4, .inr d3, .inr e3, .inl (.cells #[.int .i64 x, .int .i64 s] 32 (0, 0)), .inr d0, .inr de]) _ _ _ (some ⟨b2, o2, none⟩) 0 0 (S.drop q) (lay_belowG (A := [_, _])) (owG_on (A := [.inr dz]) (B := [.inr e2, .inr d4, .inr d3, .inr e3, .inl (.cells #[.int .i64 x, .int .i64 s] 32 (0, 0)), .inr d0, .inr de]) HV2.out) (HC3 _).out (fun h => by cases h) rfl rfl HT3.out ?_; intro v3 d5 hv3)
                    go_roundw
                    case rel =>
                      obtain ⟨dF, hdF⟩ := lay_all w [.inr d5, .inr d4, .inr d3, .inr e3, .inl (.cells #[.int .i64 x, .int .i64 s] 32 (0, 0)), .inr d0, .inr de]
                      refine ⟨q + 1, dF, by omega, by go_num, hdF, fun h => absurd h (by omega), ?_, HN2.out⟩
                      rw [← hdF, HN1.out]
                      exact hv3.sl chOk
                    case measure => simp [intOf]; omega
                · have x8 : q < c2 := by omega
                  have x9 : ¬ c2 = q := by omega
                  have HC3 : ∀ W, Hid (SlG chR W (.slice (some ⟨b2, o2 + q * 2, none⟩) 0 (c2 - q)) (S.drop q)) := fun W => Lib.hid (by rw [List.drop_of_length_le (by rw [HSL.out]; exact Nat.le_refl _)]; exact slG_none (by omega))
                  go_wp2_with fail
                  refine region_bw (by kernel_rfl) (by kernel_rfl) ?_
                  repeat (go_big_quiet_step ((first | fail)))
                  refine wpQuiet_nil ?_
                  rintro w' ⟨d3, rfl⟩
                  rw [lay_bw]
                  go_wp2_with fail
                  refine region_bw (by kernel_rfl) (by kernel_rfl) ?_
                  repeat (go_big_quiet_step ((first | fail)))
                  refine wpQuiet_nil ?_
                  rintro w' ⟨d4, rfl⟩
                  rw [lay_bw]
                  go_wp2_with fail
                  refine region_mixB 11 (.q 1 (.q 2 (.q 3 (.q 5 (.q 8 (.q 9 (.q 10 (.two 0 (.two 4 (.one 6 (.one 7 .done)) 6 (.one 4 (.one 7 .done))) 6 (.one 0 (.one 4 (.one 7 .done))))))))))) (by kernel_rfl) (by kernel_rfl) (by kernel_rfl) (by kernel_rfl) (by decide) (by kernel_rfl) ?_
                  simp only [List.drop_succ_cons, List.drop_zero]
                  iterate 7 (refine wpMB_quiet rfl (fun K hK => ?_); go_simp; refine hK _ ?_; clear hK K)
                  refine wpMB_two ?_ ?_
                  · refine spB_of rfl (fun K hK dA => ?_)
                    go_simp
                    refine hK _ _ (by first | exact lay_in w [_] _ | exact lay_in w [_, _] _ | exact lay_in w [_, _, _] _ | exact lay_in w [_, _, _, _] _ | exact lay_in w [_, _, _, _, _] _ | exact lay_in w [_, _, _, _, _, _] _) ?_
                    clear hK K
                    refine wpMB_two ?_ ?_
                    · refine spB_sl chOk rfl rfl _ _ rfl _ [] ⟨b2, o2, none⟩ q _ (S.take q) (lay_belowG (A := [_, _])) (owG_empty' chR (A := []) (B := [_])) (slG_on (A := [_, _, _, _, _, _, _]) HC1.out) rfl rfl (HT1.out) ?_
                      intro v1 e1 hv1 _
                      have HV1 := Lib.hid hv1
                      clear hv1
                      rw [lay_bw]
                      refine wpMB_one ?_
                      refine spB_of rfl (fun K hK dB => ?_)
                      go_simp
                      refine hK _ _ (by first | exact lay_in w [_] _ | exact lay_in w [_, _] _ | exact lay_in w [_, _, _] _ | exact lay_in w [_, _, _, _] _ | exact lay_in w [_, _, _, _, _] _ | exact lay_in w [_, _, _, _, _, _] _) ?_
                      clear hK K
                      refine wpMB_one ?_
                      refine spB_rec chOk rfl rfl _ _ rfl _ ([] ++ S.take q) (x, s) #[.int .i64 x, .int .i64 s] 32 _ (lay_belowG (A := [_, _, _])) (owG_on (A := [_, _]) HV1.out) (lay_get w _ 0 _ rfl) rfl rfl rfl HT2.out ⟨lx, ls⟩ ?_
                      intro v2 e2 hv2
                      have HV2 := Lib.hid hv2
                      clear hv2
                      rw [lay_bw]
                      refine wpMB_done ?_
                      intro dz
                      rw [lay_bw]
                      show wpList _ _ _ _ _ _
                      go_wp2_with (at_builtin; refine push_slG chOk rfl _ _ rfl (lay w [.inr d4, .inr d3, .inr e3, .inl (.cells #[.int .i64 x, .int .i64 s] 32 (0, 0)), .inr d0, .inr de]) _ _ _ (some ⟨b2, o2 + q * 2, none⟩) 0 (c2 - q) (S.drop q) (lay_belowG (A := [_, _])) (owG_on (A := [.inr dz]) (B := [.inr e2, .inr d4, .inr d3, .inr e3, .inl (.cells #[.int .i64 x, .int .i64 s] 32 (0, 0)), .inr d0, .inr de]) HV2.out) (HC3 _).out (fun h => by cases h) rfl rfl HT3.out ?_; intro v3 d5 hv3)
                      go_roundw
                      case rel =>
                        obtain ⟨dF, hdF⟩ := lay_all w [.inr d5, .inr d4, .inr d3, .inr e3, .inl (.cells #[.int .i64 x, .int .i64 s] 32 (0, 0)), .inr d0, .inr de]
                        refine ⟨q + 1, dF, by omega, by go_num, hdF, fun h => absurd h (by omega), ?_, HN2.out⟩
                        rw [← hdF, HN1.out]
                        exact hv3.sl chOk
                      case measure => simp [intOf]; omega
                    · refine spB_of rfl (fun K hK dB => ?_)
                      go_simp
                      refine hK _ _ (by first | exact lay_in w [_] _ | exact lay_in w [_, _] _ | exact lay_in w [_, _, _] _ | exact lay_in w [_, _, _, _] _ | exact lay_in w [_, _, _, _, _] _ | exact lay_in w [_, _, _, _, _, _] _) ?_
                      clear hK K
                      refine wpMB_one ?_
                      refine spB_sl chOk rfl rfl _ _ rfl _ [] ⟨b2, o2, none⟩ q _ (S.take q) (lay_belowG (A := [_, _, _, _])) (owG_empty' chR (A := [_, _]) (B := [_])) (slG_on (A := [_, _, _, _, _, _, _, _, _]) HC1.out) rfl rfl (HT1.out) ?_
                      intro v1 e1 hv1 hk1
                      have HV1 := Lib.hid hv1
                      have hB := lay_get w [.inl (.cells #[.int .i64 x, .int .i64 s] 32 (0, 0)), .inr dB, .inl (.cells #[] 32 (0, 0)), .inr dA, .inr d4, .inr d3, .inr e3, .inl (.cells #[.int .i64 x, .int .i64 s] 32 (0, 0)), .inr d0, .inr de] 0 _ rfl
                      have HB1 := Lib.hid ((hk1 _ (Array.getElem?_eq_some_iff.1 hB).1 (by simp only [Value.ownBlock, shp, posn, List.cons_append, List.nil_append, Nat.zero_add, List.drop_succ_cons, List.drop_zero, List.sum_cons, ne_eq, Option.some.injEq]; omega)).trans hB)
                      clear hv1 hk1 hB
                      rw [lay_bw]
                      refine wpMB_one ?_
                      refine spB_rec chOk rfl rfl _ _ rfl _ ([] ++ S.take q) (x, s) #[.int .i64 x, .int .i64 s] 32 _ (lay_belowG (A := [_])) (owG_on (A := []) HV1.out) (HB1.out) rfl rfl rfl HT2.out ⟨lx, ls⟩ ?_
                      intro v2 e2 hv2
                      have HV2 := Lib.hid hv2
                      clear hv2
                      rw [lay_bw]
                      refine wpMB_done ?_
                      intro dz
                      rw [lay_bw]
                      show wpList _ _ _ _ _ _
                      go_wp2_with (at_builtin; refine push_slG chOk rfl _ _ rfl (lay w [.inr d4, .inr d3, .inr e3, .inl (.cells #[.int .i64 x, .int .i64 s] 32 (0, 0)), .inr d0, .inr de]) _ _ _ (some ⟨b2, o2 + q * 2, none⟩) 0 (c2 - q) (S.drop q) (lay_belowG (A := [_, _])) (owG_on (A := [.inr dz]) (B := [.inr e2, .inr d4, .inr d3, .inr e3, .inl (.cells #[.int .i64 x, .int .i64 s] 32 (0, 0)), .inr d0, .inr de]) HV2.out) (HC3 _).out (fun h => by cases h) rfl rfl HT3.out ?_; intro v3 d5 hv3)
                      go_roundw
                      case rel =>
                        obtain ⟨dF, hdF⟩ := lay_all w [.inr d5, .inr d4, .inr d3, .inr e3, .inl (.cells #[.int .i64 x, .int .i64 s] 32 (0, 0)), .inr d0, .inr de]
                        refine ⟨q + 1, dF, by omega, by go_num, hdF, fun h => absurd h (by omega), ?_, HN2.out⟩
                        rw [← hdF, HN1.out]
                        exact hv3.sl chOk
                      case measure => simp [intOf]; omega
                  · refine spB_of rfl (fun K hK dB => ?_)
                    go_simp
                    refine hK _ _ (by first | exact lay_in w [_] _ | exact lay_in w [_, _] _ | exact lay_in w [_, _, _] _ | exact lay_in w [_, _, _, _] _ | exact lay_in w [_, _, _, _, _] _ | exact lay_in w [_, _, _, _, _, _] _) ?_
                    clear hK K
                    refine wpMB_one ?_
                    refine spB_of rfl (fun K hK dA => ?_)
                    go_simp
                    refine hK _ _ (by first | exact lay_in w [_] _ | exact lay_in w [_, _] _ | exact lay_in w [_, _, _] _ | exact lay_in w [_, _, _, _] _ | exact lay_in w [_, _, _, _, _] _ | exact lay_in w [_, _, _, _, _, _] _) ?_
                    clear hK K
                    refine wpMB_one ?_
                    refine spB_sl chOk rfl rfl _ _ rfl _ [] ⟨b2, o2, none⟩ q _ (S.take q) (lay_belowG (A := [_, _, _, _])) (owG_empty' chR (A := []) (B := [_, _, _])) (slG_on (A := [_, _, _, _, _, _, _, _, _]) HC1.out) rfl rfl (HT1.out) ?_
                    intro v1 e1 hv1 hk1
                    have HV1 := Lib.hid hv1
                    have hB := lay_get w [.inl (.cells #[] 32 (0, 0)), .inr dA, .inl (.cells #[.int .i64 x, .int .i64 s] 32 (0, 0)), .inr dB, .inr d4, .inr d3, .inr e3, .inl (.cells #[.int .i64 x, .int .i64 s] 32 (0, 0)), .inr d0, .inr de] 2 _ rfl
                    have HB1 := Lib.hid ((hk1 _ (Array.getElem?_eq_some_iff.1 hB).1 (by simp only [Value.ownBlock, shp, posn, List.cons_append, List.nil_append, Nat.reduceAdd, List.drop_succ_cons, List.drop_zero, List.sum_cons, ne_eq, Option.some.injEq]; omega)).trans hB)
                    clear hv1 hk1 hB
                    rw [lay_bw]
                    refine wpMB_one ?_
                    refine spB_rec chOk rfl rfl _ _ rfl _ ([] ++ S.take q) (x, s) #[.int .i64 x, .int .i64 s] 32 _ (lay_belowG (A := [_])) (owG_on (A := []) HV1.out) (HB1.out) rfl rfl rfl HT2.out ⟨lx, ls⟩ ?_
                    intro v2 e2 hv2
                    have HV2 := Lib.hid hv2
                    clear hv2
                    rw [lay_bw]
                    refine wpMB_done ?_
                    intro dz
                    rw [lay_bw]
                    show wpList _ _ _ _ _ _
                    go_wp2_with (at_builtin; refine push_slG chOk rfl _ _ rfl (lay w [.inr d4, .inr d3, .inr e3, .inl (.cells #[.int .i64 x, .int .i64 s] 32 (0, 0)), .inr d0, .inr de]) _ _ _ (some ⟨b2, o2 + q * 2, none⟩) 0 (c2 - q) (S.drop q) (lay_belowG (A := [_, _])) (owG_on (A := [.inr dz]) (B := [.inr e2, .inr d4, .inr d3, .inr e3, .inl (.cells #[.int .i64 x, .int .i64 s] 32 (0, 0)), .inr d0, .inr de]) HV2.out) (HC3 _).out (fun h => by cases h) rfl rfl HT3.out ?_; intro v3 d5 hv3)
                    go_roundw
                    case rel =>
                      obtain ⟨dF, hdF⟩ := lay_all w [.inr d5, .inr d4, .inr d3, .inr e3, .inl (.cells #[.int .i64 x, .int .i64 s] 32 (0, 0)), .inr d0, .inr de]
                      refine ⟨q + 1, dF, by omega, by go_num, hdF, fun h => absurd h (by omega), ?_, HN2.out⟩
                      rw [← hdF, HN1.out]
                      exact hv3.sl chOk
                    case measure => simp [intOf]; omega
        · obtain rfl : i = k := by omega
          have x2 : ¬ (i : Int) < (i : Int) := by omega
          have hO : OneH E := by
            have := one_of_ins (l := E) i (by rw [HLn.out]; exact Nat.le_refl _) HOn.out
            rwa [List.take_of_length_le (by rw [HLn.out]; exact Nat.le_refl _)] at this
          have hE1 := HE1.out
          rw [if_pos hO] at hE1
          have hL1 := HL.out
          have hlen : (srtH E i).length = i := srtH_len (by rw [HLn.out]; exact Nat.le_refl _)
          obtain ⟨S, hS⟩ : ∃ S, srtH E i = S := ⟨_, rfl⟩
          rw [hS] at hE1 hL1 hlen HSl
          obtain ⟨a5, c5, hform⟩ := HSl.out.form
          rw [hlen] at hform
          subst hform
          have HVd := Lib.hid (fun W (q : Tabs W (.slice a5 i c5) S) => ref34_Valid _ S W q)
          have HTb := Lib.hid (tabs_slG HSl.out)
          clear hO hS hlen
          by_cases hv : vB S = true
          · rw [if_pos hv] at hE1
            rw [hE1, if_pos rfl] at hL1
            have HE2 := Lib.hid hE1
            have HL2 := Lib.hid hL1
            rw [hv] at HVd
            clear hE1 hL1 hv
            go_wp2_with (first | (go_at_call 26; refine (HVd.out _ HTb.out).mono ?_; rintro e w' ⟨rfl, dV, rfl⟩))
            refine bodyPost_ret (v := .tuple #[.slice a5 i c5, .int .i64 0]) (by simp [results, Try.results7, go_sem]) rfl ?_
            obtain ⟨z, hz⟩ := lay_ex w [.inr dV, .inr de]
            rw [HE2.out, HL2.out]
            exact ⟨_, z, rfl, hz, by rw [← hz]; exact slG_on (A := [.inr dV]) HSl.out⟩
          · rw [if_neg hv] at hE1
            rw [hE1, if_neg (by decide)] at hL1
            have HE2 := Lib.hid hE1
            have HL2 := Lib.hid hL1
            rw [show vB S = false from Bool.not_eq_true _ ▸ hv] at HVd
            clear hE1 hL1 hv
            go_wp2_with (first | (go_at_call 26; refine (HVd.out _ HTb.out).mono ?_; rintro e w' ⟨rfl, dV, rfl⟩))
            refine bodyPost_ret (v := .tuple #[.slice none 0 0, .int .i64 1]) (by simp [results, Try.results7, go_sem]) rfl ?_
            rw [HE2.out, HL2.out]
            exact swgP_nil w _ 1
end Go.Proofs.Ytlkphcjlgbimkaa

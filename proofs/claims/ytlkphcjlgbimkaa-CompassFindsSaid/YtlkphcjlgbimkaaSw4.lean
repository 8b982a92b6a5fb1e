/- compass.Swing: the list, sorted and looked through. -/
import Derived.Test.YtlkphcjlgbimkaaProg
import Derived.Test.YtlkphcjlgbimkaaLay
import Derived.Test.YtlkphcjlgbimkaaRegion
import Derived.Test.YtlkphcjlgbimkaaMix
import Derived.WalkKit
import Derived.WalkSpells
import Derived.WalkLawsBesides
import Derived.Lib.Hide
import Derived.BigQuiet
import Derived.Test.YtlkphcjlgbimkaaSrt
import Derived.Test.YtlkphcjlgbimkaaSw3
namespace Go.Proofs.Ytlkphcjlgbimkaa
open Go.RowKit

theorem lit_sgn (n : Int) : (Lit.int .i64 (sgnH n)).wf = true := by
  have := sgnH_bd n
  simp [Lit.wf, IntKind.min, IntKind.max, IntKind.bits, IntKind.signed]; omega
theorem head_bd {n : Int} (h : headB n = true) : 0 ≤ n ∧ n < 21600000 := by simpa [headB] using h
theorem head_nth {l : List Int} (h : l.all headB = true) {i : Nat} (hi : i < l.length) : 0 ≤ nth l i ∧ nth l i < 21600000 := by
  have hm : nth l i ∈ l := by unfold nth; simp [List.getD, hi]
  exact head_bd (List.all_eq_true.1 h _ hm)
/-- What the library's sort does, to be paid by the shelf. -/
def SortH : Prop := ∀ (W0 : World) (v : Value) (l : Tl) (w : World), Below W0.heap.size W0 w → OwG chR w W0.heap.size v l → 0 < l.length → l.length ≤ 1000000000 →
    Calls Try.prog 22 #[v, .func (.func 23) #[] #[]] w fun e w' => e = .returned (.tuple #[]) ∧ ∃ d l', w' = bw W0 d ∧ l'.Perm l ∧ l'.Pairwise (fun a b => a.1 ≤ b.1) ∧ OwG chR (bw W0 d) W0.heap.size v l'
set_option maxHeartbeats 4000000 in
set_option maxRecDepth 100000 in
theorem comp_Swing_main (HSrt : Hid SortH) (v0 v1 : Value) (h b : List Int) (B V : Int) (w : World) (h0 : Sl w v0 h) (h1 : Sl w v1 b) (e1 : h.length = b.length) (e2 : 0 < h.length) (e3 : h.length ≤ 100) (hR : swgR h b B V = true) :
    Calls Try.prog 6 #[v0, v1, .int .i64 B, .int .i64 V] w (SwgP w (swgL h b B V) (swgE h b B V)) := by
  have H0 := Lib.hid h0
  have H1 := Lib.hid h1
  have hE : swgE h b B V = if h.length ≠ b.length then 3 else if h.length = 0 then 14 else if swgR h b B V = false then 2
    else if OneH (entH h b B V h.length) then (if vB (srtH (entH h b B V h.length) h.length) = true then 0 else 1) else 10 := rfl
  have hL : swgL h b B V = if swgE h b B V = 0 then srtH (entH h b B V h.length) h.length else [] := rfl
  rw [if_neg (fun h => h e1), if_neg (by omega), if_neg (by rw [hR]; decide)] at hE
  unfold swgR at hR
  simp only [Bool.and_eq_true] at hR
  obtain ⟨⟨⟨r0, r1⟩, r2⟩, r3⟩ := hR
  obtain ⟨B0, B1⟩ := head_bd r2
  obtain ⟨V0, V1⟩ : -10800000 ≤ V ∧ V ≤ 10800000 := by simpa [withB] using r3
  obtain ⟨b0, o0, c0, rfl, -, -, hb0, hr0⟩ := h0.open e2
  obtain ⟨b1, o1, c1, rfl, -, -, hb1, hr1⟩ := h1.open (by omega)
  have hC0 := Lib.hid (fun W (q : Sl W (.slice (some ⟨b0, o0, none⟩) h.length c0) h) => comp_wrongs _ h W q)
  have hC1 := Lib.hid (fun W (q : Sl W (.slice (some ⟨b1, o1, none⟩) b.length c1) b) => comp_wrongs _ b W q)
  rw [r0] at hC0
  rw [r1] at hC1
  have HB : Hid (∀ W, Calls Try.prog 17 #[.int .i64 B] W fun e w' => e = .returned (.bool false) ∧ w' = W) := Lib.hid (fun W => by have := comp_Swing1 B W; rw [r2] at this; exact this)
  have HV : Hid (∀ W, Calls Try.prog 20 #[.int .i64 V, .int .i64 10800000] W fun e w' => e = .returned (.bool true) ∧ w' = W) := Lib.hid (fun W => by rw [← r3]; exact comp_within V 10800000 W (by omega) (by omega))
  have HN0 := Lib.hid (fun i (hi : i < h.length) => head_nth r0 hi)
  have HN1 := Lib.hid (fun i (hi : i < b.length) => head_nth r1 hi)
  rw [← e1] at H1 hC1 hr1 HN1 ⊢
  have HR0 := Lib.hid hr0
  have HR1 := Lib.hid hr1
  have HE := Lib.hid hE
  have HL := Lib.hid hL
  have HX := Lib.hid (fun k => entH_step h b B V k)
  have HXL := Lib.hid (fun k => entH_len h b B V k)
  have t2 : ((h.length : Int) == 0) = false := beq_eq_false_iff_ne.2 (by omega)
  clear hE hL r0 r1 r2 r3 hr0 hr1 h0 h1 e1
  obtain ⟨n, hn⟩ : ∃ n, h.length = n := ⟨_, rfl⟩
  rw [hn] at H0 H1 hC0 hC1 HR0 HR1 HN0 HN1 HE HL e2 e3 t2 ⊢
  clear hn
  refine lay_start ?_
  go_enter Try.func6, Try.ntmps6
  go_wp2_with (first | (go_at_call 19; first | (with_reducible refine (hC0.out _ (H0.out.lay _)).mono ?_; rintro e w' ⟨rfl, dA, rfl⟩) | (with_reducible refine (hC1.out _ (H1.out.lay _)).mono ?_; rintro e w' ⟨rfl, dB, rfl⟩)) | (go_at_call 17; refine (HB.out _).mono ?_; rintro e w' ⟨rfl, rfl⟩) | (go_at_call 20; refine (HV.out _).mono ?_; rintro e w' ⟨rfl, rfl⟩))
  go_loopw [11, 45] (fun v11 v45 wr' => ∃ (k : Nat) (dd : Ext), k ≤ n ∧ v45 = .int .i64 (k : Int) ∧ wr' = lay w [.inr dd, .inr dB, .inr dA] ∧ OwG chR (lay w [.inr dd, .inr dB, .inr dA]) (lay w [.inr dB, .inr dA]).heap.size v11 (entH h b B V k)) (fun _ v45 _ => n - (intOf v45).toNat)
  case atStart => exact ⟨0, noExt _, Nat.zero_le _, rfl, (bw_noExt _).symm, OwG.nil _ _ _⟩
  case round =>
    obtain ⟨k, dd, hk, rfl, rfl, hown⟩ := hrel
    by_cases hlt : k < n
    · have HST := Lib.hid (HX.out k)
      have hll := HXL.out k
      have k0 := HR0.out k hlt
      have k1 := HR1.out k hlt
      obtain ⟨p0, p1⟩ := HN0.out k hlt
      obtain ⟨p2, p3⟩ := HN1.out k hlt
      have x1 : (k : Int) < (n : Int) := by omega
      have HO := Lib.hid hown
      clear hown
      have HST : Hid (entH h b B V (k + 1) = entH h b B V k ++ [(nth h k, sgnH (B - V - nth b k))]) := HST
      have ls := lit_sgn (B - V - nth b k)
      have HSg := Lib.hid (fun W => (signed_sgn (B - V - nth b k)) ▸ angle_Signed (B - V - nth b k) W)
      generalize entH h b B V k = R at *
      generalize nth h k = x at *
      generalize nth b k = y at *
      have lx : (Lit.int .i64 x).wf = true := by simp [Lit.wf, IntKind.min, IntKind.max, IntKind.bits, IntKind.signed]; omega
      go_wp2_with (first | (go_at_call 21; refine (HSg.out _).mono ?_; rintro e w' ⟨rfl, rfl⟩) | (at_builtin; refine push_rec chOk rfl _ _ rfl (lay w [.inr dB, .inr dA]) _ (x, sgnH (B - V - y)) #[.int .i64 x, .int .i64 (sgnH (B - V - y))] 32 _ _ _ ?_ (owG_on (A := [_]) HO.out) ?_ rfl rfl rfl (by omega) ⟨lx, ls⟩ ?_; exact lay_belowG (A := [_, _]); exact lay_get w _ 0 _ rfl; intro v' d' hv'))
      go_roundw
      case rel => exact ⟨k + 1, d', by omega, by go_num, rfl, by rw [HST.out]; exact hv'⟩
      case measure => simp [intOf]; omega
    · obtain rfl : k = n := by omega
      have x1 : ¬ (k : Int) < (k : Int) := by omega
      have hll := HXL.out k
      obtain ⟨E, hEE⟩ : ∃ E, entH h b B V k = E := ⟨_, rfl⟩
      rw [hEE] at hown hll HE HL
      obtain ⟨g, c, hform, hg1, hg2, hg3⟩ := hown.form1 (by omega)
      rw [hll] at hform hg3
      subst hform
      have HO := Lib.hid hown
      have HLn := Lib.hid hll
      clear hown hll hEE HX HXL
      go_wp2_with fail
      refine (HSrt.out (lay w [.inr dB, .inr dA]) _ E _ (lay_belowG (A := [_])) HO.out (by rw [HLn.out]; exact e2) (by rw [HLn.out]; omega)).mono ?_
      rintro e w' ⟨rfl, d2, l', rfl, hp, hs, ho⟩
      rw [lay_bw] at ho ⊢
      have HP := Lib.hid hp
      have HS := Lib.hid hs
      have HO2 := Lib.hid ho
      have HL2 : Hid (l'.length = k) := Lib.hid (by rw [hp.length_eq]; exact HLn.out)
      clear hp hs ho hg1 hg2 HO
      go_wp2_with fail
      go_loopw [14] (fun v14 wr' => ∃ (i : Nat) (dd : Ext), 1 ≤ i ∧ i ≤ k ∧ v14 = .int .i64 (i : Int) ∧ wr' = lay w [.inr dd, .inr d2, .inr dB, .inr dA] ∧ ∀ j, j + 1 < i → hd l' j < hd l' (j + 1)) (fun v14 _ => k - (intOf v14).toNat)
      case atStart => exact ⟨1, noExt _, Nat.le_refl _, e2, rfl, (bw_noExt _).symm, fun j hj => by omega⟩
      case round =>
        obtain ⟨i, dd, hi1, hik, rfl, rfl, hasc⟩ := hrel
        have HA := Lib.hid hasc
        clear hasc
        by_cases hlt2 : i < k
        · have x2 : (i : Int) < (k : Int) := by omega
          have y0 : (0 : Int) ≤ (i : Int) := by omega
          have y1 : (0 : Int) ≤ (i : Int) - 1 := by omega
          have y2 : (i : Int) - 1 < (k : Int) := by omega
          have y3 : ((i : Int) - 1).toNat = i - 1 := by omega
          have w1 : IntKind.i64.wrap ((i : Int) - 1) = (i : Int) - 1 := IntWalk.i64_in _ (by omega)
          have c0 : ∀ d, (lay w [.inr d, .inr dd, .inr d2, .inr dB, .inr dA]).cell? ⟨g, i * 2, none⟩ = some (.int .i64 (hd l' i)) := fun d => (owG_on (A := [.inr d, .inr dd]) HO2.out).cell chOk (j := 0) (pair_eq (by rw [HL2.out]; exact hlt2)) rfl
          have c1 : ∀ d, (lay w [.inr d, .inr dd, .inr d2, .inr dB, .inr dA]).cell? ⟨g, (i - 1) * 2, none⟩ = some (.int .i64 (hd l' (i - 1))) := fun d => (owG_on (A := [.inr d, .inr dd]) HO2.out).cell chOk (j := 0) (pair_eq (by rw [HL2.out]; omega)) rfl
          have hle : hd l' (i - 1) ≤ hd l' i := by
            have h5 := List.pairwise_iff_getElem.1 HS.out (i - 1) i (by rw [HL2.out]; omega) (by rw [HL2.out]; exact hlt2) (by omega)
            have e5 := List.getElem?_eq_some_iff.1 (pair_eq (l := l') (k := i) (by rw [HL2.out]; exact hlt2))
            have e6 := List.getElem?_eq_some_iff.1 (pair_eq (l := l') (k := i - 1) (by rw [HL2.out]; omega))
            rw [e5.2, e6.2] at h5
            exact h5
          by_cases heq : hd l' i = hd l' (i - 1)
          · have t5 : (hd l' i == hd l' (i - 1)) = true := beq_iff_eq.2 heq
            have hno : ¬ OneH E := two_adj HP.out (i := i - 1) (by rw [HL2.out]; omega) (by rw [show i - 1 + 1 = i by omega]; exact heq)
            have hE1 := HE.out
            rw [if_neg hno] at hE1
            have hL1 := HL.out
            rw [hE1, if_neg (by decide)] at hL1
            rw [hE1, hL1]
            clear hno hE1 hL1 heq hle
            generalize hd l' i = X at *
            generalize hd l' (i - 1) = Y at *
            go_wp2_with fail
            refine region_bw (by kernel_rfl) (by kernel_rfl) ?_
            repeat (go_big_quiet_step ((first | fail)))
            refine wpQuiet_nil ?_
            rintro w' ⟨d, rfl⟩
            rw [lay_bw]
            go_wp2_with fail
            exact bodyPost_ret (v := .tuple #[.slice none 0 0, .int .i64 10]) (by simp [results, Try.results6, go_sem]) rfl (swgP_nil w _ 10)
          · have t5 : (hd l' i == hd l' (i - 1)) = false := beq_eq_false_iff_ne.2 heq
            have HA2 : Hid (∀ j, j + 1 < i + 1 → hd l' j < hd l' (j + 1)) := Lib.hid (fun j hj => by
              by_cases e : j + 1 = i
              · have : j = i - 1 := by omega
                subst this
                rw [show i - 1 + 1 = i by omega]; omega
              · exact HA.out j (by omega))
            clear heq hle
            generalize hd l' i = X at *
            generalize hd l' (i - 1) = Y at *
            go_wp2_with fail
            refine region_bw (by kernel_rfl) (by kernel_rfl) ?_
            repeat (go_big_quiet_step ((first | fail)))
            refine wpQuiet_nil ?_
            rintro w' ⟨d, rfl⟩
            rw [lay_bw]
            go_wp2_with fail
            go_roundw
            case rel => exact ⟨i + 1, _, by omega, by omega, by go_num, Classical.choose_spec (lay_fold w [_, _] _), HA2.out⟩
            case measure => simp [intOf]; omega
        · obtain rfl : i = k := by omega
          have x2 : ¬ (i : Int) < (i : Int) := by omega
          have hA : AscH l' := asc_of_adj fun j hj => HA.out j (by rw [HL2.out] at hj; exact hj)
          have hO : OneH E := (OneH.of_asc hA).perm HP.out
          have hEq : l' = srtH E i := by
            have := sorted_eq hO HP.out HS.out
            rw [HLn.out] at this; exact this
          have hE1 := HE.out
          rw [if_pos hO, ← hEq] at hE1
          have hL1 := HL.out
          rw [← hEq] at hL1
          have HVd := Lib.hid (fun W (q : Tabs W (.slice (some ⟨g, 0, none⟩) i c) l') => comp_Valid _ l' W q)
          have HTb := Lib.hid (tabs_slG ((owG_on (A := [.inr dd]) HO2.out).sl chOk))
          clear hA hO hEq
          by_cases hv : vB l' = true
          · rw [if_pos hv] at hE1
            rw [hE1, if_pos rfl] at hL1
            have HE1 := Lib.hid hE1
            have HL1 := Lib.hid hL1
            rw [hv] at HVd
            clear hE1 hL1 hv
            go_wp2_with (first | (go_at_call 9; refine (HVd.out _ HTb.out).mono ?_; rintro e w' ⟨rfl, dV, rfl⟩))
            refine bodyPost_ret (v := .tuple #[.slice (some ⟨g, 0, none⟩) i c, .int .i64 0]) (by simp [results, Try.results6, go_sem]) rfl ?_
            obtain ⟨z, hz⟩ := lay_ex w [.inr dV, .inr dd, .inr d2, .inr dB, .inr dA]
            rw [HE1.out, HL1.out]
            exact ⟨_, z, rfl, hz, by rw [← hz]; exact (owG_on (A := [.inr dV, .inr dd]) HO2.out).sl chOk⟩
          · rw [if_neg hv] at hE1
            rw [hE1, if_neg (by decide)] at hL1
            have HE1 := Lib.hid hE1
            have HL1 := Lib.hid hL1
            rw [show vB l' = false from Bool.not_eq_true _ ▸ hv] at HVd
            clear hE1 hL1 hv
            go_wp2_with (first | (go_at_call 9; refine (HVd.out _ HTb.out).mono ?_; rintro e w' ⟨rfl, dV, rfl⟩))
            refine bodyPost_ret (v := .tuple #[.slice none 0 0, .int .i64 1]) (by simp [results, Try.results6, go_sem]) rfl ?_
            rw [HE1.out, HL1.out]
            exact swgP_nil w _ 1
end Go.Proofs.Ytlkphcjlgbimkaa

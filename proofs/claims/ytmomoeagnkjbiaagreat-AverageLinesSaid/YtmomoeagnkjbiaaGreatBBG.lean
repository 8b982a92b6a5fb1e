/- Contracts and plain laws, several texts in one: SpB -/
import Derived.Test.YtmomoeagnkjbiaaGreatProg
import Derived.WalkKit
import Derived.WalkSpells
import Derived.WalkLawsBesides
import Derived.Lib.Hide
import Derived.BigQuiet
import Derived.Test.YtmomoeagnkjbiaaGreatBAA
import Derived.Test.YtmomoeagnkjbiaaGreatBAB
import Derived.Test.YtmomoeagnkjbiaaGreatBAU
import Derived.Test.YtmomoeagnkjbiaaGreatBBF
/- The reference's slopes. -/
namespace Go.Proofs.YtmomoeagnkjbiaaGreat
open Go.RowKit

/-- A row of pairs, sorted. -/
def SlpP (w : World) (t h : List Int) (e : Ending) (w' : World) : Prop := ∃ v d L, e = .returned v ∧ w' = bw w d ∧ OwG prR (bw w d) w.heap.size v L ∧ L.Perm (risAll t h t.length) ∧ L.Pairwise fun x y => risLe x.1 y.1 = true
theorem le_pair {x y : RisB} {X Y : Int} (hX : 1000 * x.1.h * y.1.t = X) (hY : 1000 * y.1.h * x.1.t = Y) : (Y < X ↔ ¬ leR x y) ∧ -4611686018427387904 ≤ X ∧ X ≤ 4611686018427387904 ∧ -4611686018427387904 ≤ Y ∧ Y ≤ 4611686018427387904 := by
  have h1 := cmp_bd x y
  have h2 := cmp_bd y x
  rw [Int.mul_assoc] at hX hY
  unfold leR risLe
  rw [decide_eq_true_iff]
  omega
set_option maxHeartbeats 8000000 in
set_option maxRecDepth 100000 in
theorem r23_slopes (vt vh : Value) (t h : List Int) (w : World) (ht : Sl w vt t) (hh : Sl w vh h) (hl : t.length = h.length) (h1 : 1 ≤ t.length) (hn : t.length ≤ 1000) (bt : Bd t 86400000) (bh : Bd h 10800000) :
    Calls Tryz.prog 46 #[vt, vh] w (SlpP w t h) := by
  have HB := Lib.hid (And.intro bt bh)
  have HLl := Lib.hid (risAll_len t h t.length)
  have HAs := Lib.hid (fun i => show risAll t h (i + 1) = risAll t h i ++ risRow t h i i from rfl)
  obtain ⟨b, o, cap, rfl, hc, -, hbs, hr⟩ := ht.open (by omega)
  obtain ⟨b2, o2, cap2, rfl, hc2, -, hbs2, hr2⟩ := hh.open (by omega)
  rw [← hl] at hr2 hc2 ⊢
  unfold SlpP
  obtain ⟨m, hm⟩ : ∃ m, t.length = m := ⟨_, rfl⟩
  have hml : h.length = m := by omega
  have HM := Lib.hid (And.intro hm hml)
  rw [hm] at hr hr2 hc hc2 h1 hn HLl ⊢
  have HTc := Lib.hid hr
  have HHc := Lib.hid hr2
  clear hr hr2 hm hl ht hh bt bh hml
  refine lay_start ?_
  go_enter Tryz.func46, Tryz.ntmps46
  go_wp2_with fail
  go_loopw [5, 6] (fun v5 v6 wr => ∃ (i : Nat) (dd : Ext), i ≤ m ∧ v6 = .int .i64 (i : Int) ∧ wr = lay w [.inr dd] ∧ OwG prR (lay w [.inr dd]) (lay w []).heap.size v5 (risAll t h i)) (fun _ v6 _ => m - (intOf v6).toNat)
  case atStart => exact ⟨0, noExt _, Nat.zero_le _, rfl, (bw_noExt _).symm, OwG.nil _ _ _⟩
  case round =>
    obtain ⟨i, dd, hi, rfl, rfl, hO⟩ := hrel
    have HO := Lib.hid hO
    clear hO
    by_cases hlt : i < m
    · have x1 : (i : Int) < (m : Int) := by omega
      go_wp2_with fail
      go_loopw [5, 7] (fun v5 v7 wr => ∃ (k : Nat) (d2 : Ext), k ≤ i ∧ v7 = .int .i64 (k : Int) ∧ wr = lay w [.inr d2] ∧ OwG prR (lay w [.inr d2]) (lay w []).heap.size v5 (risAll t h i ++ risRow t h i k)) (fun _ v7 _ => i - (intOf v7).toNat)
      case atStart => exact ⟨0, dd, Nat.zero_le _, rfl, rfl, by rw [show risRow t h i 0 = [] from rfl, List.append_nil]; exact HO.out⟩
      case round =>
        obtain ⟨k, d2, hk, rfl, rfl, hO2⟩ := hrel
        have HO2 := Lib.hid hO2
        clear hO2
        by_cases hlt2 : k < i
        · have e1 := HTc.out i hlt
          have e2 := HTc.out k (by omega)
          have f1 := HHc.out i hlt
          have f2 := HHc.out k (by omega)
          have bd1 := HB.out.1 i (by rw [HM.out.1]; exact hlt)
          have bd2 := HB.out.1 k (by rw [HM.out.1]; omega)
          have bd3 := HB.out.2 i (by rw [HM.out.2]; exact hlt)
          have bd4 := HB.out.2 k (by rw [HM.out.2]; omega)
          have y0 : (0 : Int) ≤ (i : Int) := by omega
          have y1 : (0 : Int) ≤ (k : Int) := by omega
          have y2 : (k : Int) < (i : Int) := by omega
          have y3 : (k : Int) < (m : Int) := by omega
          have w0 : IntKind.i64.wrap ((k : Int) + 1) = (k : Int) + 1 := IntWalk.i64_in _ (by omega)
          have hlen : (risAll t h i ++ risRow t h i k).length ≤ 1000000000 := by
            rw [List.length_append]
            have l1 := risAll_len t h i
            have l2 := risRow_len t h i k
            have l3 : i * i ≤ 1000 * 1000 := Nat.mul_le_mul (by omega) (by omega)
            omega
          have HST := Lib.hid (show risAll t h i ++ risRow t h i (k + 1) = (risAll t h i ++ risRow t h i k) ++ rp t h i k by rw [List.append_assoc]; rfl)
          have HRP : Hid (rp t h i k = if 0 < nth t i - nth t k then [mkR (nth h i - nth h k) (nth t i - nth t k)] else if nth t i - nth t k < 0 then [mkR (nth h k - nth h i) (-(nth t i - nth t k))] else []) := Lib.hid rfl
          generalize rp t h i k = RP at *
          generalize risAll t h i ++ risRow t h i k = L at *
          generalize nth t i = ti at *
          generalize nth t k = tk at *
          generalize nth h i = hi' at *
          generalize nth h k = hk' at *
          obtain ⟨D, hD⟩ : ∃ D, ti - tk = D := ⟨_, rfl⟩
          obtain ⟨G, hG⟩ : ∃ G, hi' - hk' = G := ⟨_, rfl⟩
          obtain ⟨N, hN⟩ : ∃ N, 1000 * G = N := ⟨_, rfl⟩
          rw [hD, hG] at HRP
          have hDb : -172800000 ≤ D ∧ D ≤ 172800000 := by omega
          have hGb : -21600000 ≤ G ∧ G ≤ 21600000 := by omega
          have w1 : IntKind.i64.wrap D = D := IntWalk.i64_in _ (by omega)
          have w2 : IntKind.i64.wrap G = G := IntWalk.i64_in _ (by omega)
          have w3 : IntKind.i64.wrap N = N := IntWalk.i64_in _ (by omega)
          have HG2 : Hid (hk' - hi' = -G) := Lib.hid (by omega)
          have HNG : Hid (N = 1000 * G) := Lib.hid hN.symm
          rw [HG2.out] at HRP
          clear bd1 bd2 bd3 bd4
          go_wp2_with fail
          refine region_mixW [0, 0, 0, 0, 0, 0, 0, 0, 0, 0, 0, 0, 0, 0, 0, 0, 0, 0, 0, 0, 1, 1] (by kernel_rfl) (by kernel_rfl) (by kernel_rfl) ?_
          repeat (first | (refine wpM_quiet (fun K hK => ?_); go_simp; first | (refine hK _ ?_; clear hK K) | (apply Exists.intro; refine ⟨fun _ => ?_, hK _ ?_⟩; (first | fail); clear hK K)) | (refine wpM_special (fun K hK d => ?_); go_simp; refine hK _ _ (by first | exact lay_in w [_] _ | exact lay_in w [_, _] _ | exact lay_in w [_, _, _] _ | exact lay_in w [_, _, _, _] _ | exact lay_in w [_, _, _, _, _] _ | exact lay_in w [_, _, _, _, _, _] _) ?_; clear hK K))
          refine wpM_nil ?_
          intro d
          rw [lay_bw]
          rename_i da db
          by_cases c1 : 0 < D
          · have c1' : ¬ D < 0 := by omega
            have c3 : (D == 0) = false := beq_eq_false_iff_ne.2 (by omega)
            have c4 : (D != 0) = true := bne_iff_ne.2 (by omega)
            rw [if_pos c1] at HRP
            have HLT := Lib.hid hlt2
            have HCS : Hid (#[Value.int .i64 N, Value.int .i64 D].toList = prR.enc (mkR G D)) := Lib.hid (by show [_, _] = [Value.int .i64 (1000 * (mkR _ _).1.h), Value.int .i64 (mkR _ _).1.t]; rw [mkR_h (by omega), HNG.out])
            clear hGb hDb hN hD hG
            go_wp2_with (at_builtin; refine push_rec prOk rfl _ _ rfl (lay w []) _ (mkR G D) #[.int .i64 N, .int .i64 D] 93 _ _ L ?_ (owG_on (A := [_, _, _, _, _]) HO2.out) ?_ HCS.out rfl rfl hlen trivial ?_; exact lay_belowG (A := [_, _, _, _, _, _]) (B := []); exact lay_get w _ 0 _ rfl; intro v' d' hv')
            have HV := Lib.hid hv'
            clear hv'
            go_wp2_with fail
            go_roundw
            case rel => exact ⟨k + 1, d', HLT.out, by go_num, rfl, by rw [HST.out, HRP.out]; exact HV.out⟩
            case measure => have := HLT.out; simp [intOf]; omega
          · rw [if_neg c1] at HRP
            by_cases c2 : D < 0
            · obtain ⟨N2, hN2⟩ : ∃ N2, -N = N2 := ⟨_, rfl⟩
              obtain ⟨D2, hD2⟩ : ∃ D2, -D = D2 := ⟨_, rfl⟩
              have w4 : IntKind.i64.wrap N2 = N2 := IntWalk.i64_in _ (by omega)
              have w5 : IntKind.i64.wrap D2 = D2 := IntWalk.i64_in _ (by omega)
              have c3 : (D2 == 0) = false := beq_eq_false_iff_ne.2 (by omega)
              have c4 : (D2 != 0) = true := bne_iff_ne.2 (by omega)
              rw [if_pos c2, hD2] at HRP
              have HLT := Lib.hid hlt2
              have HCS : Hid (#[Value.int .i64 N2, Value.int .i64 D2].toList = prR.enc (mkR (-G) D2)) := Lib.hid (by show [_, _] = [Value.int .i64 (1000 * (mkR _ _).1.h), Value.int .i64 (mkR _ _).1.t]; rw [mkR_h (by omega)]; show [Value.int .i64 N2, Value.int .i64 D2] = [Value.int .i64 (1000 * -G), Value.int .i64 D2]; rw [show N2 = 1000 * -G by have := HNG.out; omega])
              clear hGb hDb hN hD hG
              go_wp2_with (at_builtin; refine push_rec prOk rfl _ _ rfl (lay w []) _ (mkR (-G) D2) #[.int .i64 N2, .int .i64 D2] 93 _ _ L ?_ (owG_on (A := [_, _, _, _, _]) HO2.out) ?_ HCS.out rfl rfl hlen trivial ?_; exact lay_belowG (A := [_, _, _, _, _, _]) (B := []); exact lay_get w _ 0 _ rfl; intro v' d' hv')
              have HV := Lib.hid hv'
              clear hv'
              go_wp2_with fail
              go_roundw
              case rel => exact ⟨k + 1, d', HLT.out, by go_num, rfl, by rw [HST.out, HRP.out]; exact HV.out⟩
              case measure => have := HLT.out; simp [intOf]; omega
            · obtain rfl : D = 0 := by omega
              rw [if_neg c2] at HRP
              have HLT := Lib.hid hlt2
              obtain ⟨d5, e5⟩ := lay_fold w [.inr d, .inr db, .inl (.cells #[.int .i64 N, .int .i64 0] 93 (0, 0)), .inr da, .inr d2] []
              change lay w [.inr d, .inr db, .inl (.cells #[.int .i64 N, .int .i64 0] 93 (0, 0)), .inr da, .inr d2] = lay w [.inr d5] at e5
              have hO5 : OwG prR (lay w [.inr d, .inr db, .inl (.cells #[.int .i64 N, .int .i64 0] 93 (0, 0)), .inr da, .inr d2]) _ _ L := owG_on (A := [_, _, _, _]) HO2.out
              rw [e5] at hO5
              have HO5 := Lib.hid (And.intro hO5 e5)
              clear hGb hDb hN hD hG hO5 e5 c1 c2
              go_wp2_with fail
              go_roundw
              case rel => exact ⟨k + 1, d5, HLT.out, by go_num, HO5.out.2, by rw [HST.out, HRP.out, List.append_nil]; exact HO5.out.1⟩
              case measure => have := HLT.out; simp [intOf]; omega
        · obtain rfl : k = i := by omega
          have HST := HAs.out k
          rw [← HST] at HO2
          clear HST
          have x3 : ¬ (k : Int) < (k : Int) := by omega
          have w3 : IntKind.i64.wrap ((k : Int) + 1) = (k : Int) + 1 := IntWalk.i64_in _ (by omega)
          have HLT := Lib.hid hlt
          go_wp2_with fail
          go_roundw
          case rel => exact ⟨k + 1, d2, HLT.out, by go_num, rfl, HO2.out⟩
          case measure => have := HLT.out; simp [intOf]; omega
    · obtain rfl : i = m := by omega
      have x2 : ¬ (i : Int) < (i : Int) := by omega
      have hb : i * i ≤ 1000 * 1000 := Nat.mul_le_mul hn hn
      obtain ⟨q, hq⟩ : ∃ q, (risAll t h i).length = q := ⟨_, rfl⟩
      have hqb : q ≤ 1000000 := by rw [← hq]; have := HLl.out; omega
      have HQ := Lib.hid hq
      obtain ⟨R0, hR0⟩ : ∃ R0, risAll t h i = R0 := ⟨_, rfl⟩
      rw [hR0] at HO HQ
      have HR0 := Lib.hid hR0
      clear hR0
      clear HAs HB HTc HHc hb HLl hq
      by_cases hq0 : q = 0
      · subst hq0
        have hnil : R0 = [] := List.length_eq_zero_iff.1 HQ.out
        obtain ⟨a, cp, hv8⟩ := HO.out.form
        rw [HQ.out] at hv8
        subst hv8
        clear hnil
        go_wp2_with fail
        go_loopw [9] (fun v9 wr => v9 = .int .i64 1 ∧ wr = lay w [.inr dd]) (fun v9 _ => (intOf v9).toNat)
        case atStart => exact ⟨rfl, rfl⟩
        case round =>
          obtain ⟨rfl, rfl⟩ := hrel
          go_wp2_with fail
          go_ret
          exact ⟨_, dd, R0, rfl, rfl, HO.out, by rw [HR0.out], by rw [List.length_eq_zero_iff.1 HQ.out]; exact List.Pairwise.nil⟩
      · obtain ⟨g, cp, hv8, hg1, hg2, hg3⟩ := HO.out.form1 (by rw [HQ.out]; omega)
        rw [HQ.out] at hv8 hg3
        subst hv8
        have hg : w.heap.size ≤ g := hg1
        go_wp2_with fail
        go_loopw [9] (fun v9 wr => ∃ (i : Nat) (L : List RisB) (d1 : Ext), 1 ≤ i ∧ i ≤ q ∧ v9 = .int .i64 (i : Int) ∧ wr = lay w [.inr d1] ∧ OwG prR (lay w [.inr d1]) (lay w []).heap.size (.slice (some ⟨g, 0, none⟩) q cp) L ∧ L.Perm R0 ∧ AscR L i) (fun v9 _ => q - (intOf v9).toNat)
        case atStart => exact ⟨1, R0, dd, Nat.le_refl _, by omega, rfl, rfl, HO.out, List.Perm.refl _, AscR.one _⟩
        case round =>
          obtain ⟨i, L, d1, hi1, hi, rfl, rfl, hO, hP, hA⟩ := hrel
          have HO1 := Lib.hid (And.intro hO (And.intro hP hA))
          have HLq : Hid (L.length = q) := Lib.hid (by rw [hP.length_eq]; exact HQ.out)
          clear hO hP hA
          by_cases hlt : i < q
          · have x0 : (i : Int) < (q : Int) := by omega
            have HIQ := Lib.hid hlt
            have HI1 := Lib.hid hi1
            have w9 : IntKind.i64.wrap ((i : Int) + 1) = (i : Int) + 1 := IntWalk.i64_in _ (by omega)
            go_wp2_with fail
            go_loopw [10] (fun v10 wr => ∃ (k : Nat) (L : List RisB) (d2 : Ext), k ≤ i ∧ v10 = .int .i64 (k : Int) ∧ wr = lay w [.inr d2] ∧ OwG prR (lay w [.inr d2]) (lay w []).heap.size (.slice (some ⟨g, 0, none⟩) q cp) L ∧ L.Perm R0 ∧ InsR L i k) (fun v10 _ => (intOf v10).toNat)
            case atStart => exact ⟨i, L, d1, Nat.le_refl _, rfl, rfl, HO1.out.1, HO1.out.2.1, InsR.start HO1.out.2.2⟩
            case round =>
              obtain ⟨k, L2, d2, hk, rfl, rfl, hO2, hP2, hI2⟩ := hrel
              have HO2 := Lib.hid (And.intro hO2 (And.intro hP2 hI2))
              have HL2 : Hid (L2.length = q) := Lib.hid (by rw [hP2.length_eq]; exact HQ.out)
              clear hO2 hP2 hI2
              by_cases hk0 : k = 0
              · subst hk0
                have y0 : decide ((0 : Int) < ((0 : Nat) : Int)) = false := rfl
                go_wp2_with fail
                refine region_bw (by kernel_rfl) (by kernel_rfl) ?_
                repeat (go_big_quiet_step ((first | fail)))
                refine wpQuiet_nil ?_
                rintro w' ⟨d, rfl⟩
                rw [lay_bw]
                obtain ⟨d3, e3⟩ : ∃ x, lay w [.inr d, .inr d2] = lay w [.inr x] := ⟨_, bw_bw _ _ _⟩
                have hO3 : OwG prR (lay w [.inr d, .inr d2]) (lay w []).heap.size (.slice (some ⟨g, 0, none⟩) q cp) L2 := owG_on (A := [.inr d]) HO2.out.1
                rw [e3] at hO3 ⊢
                have HO3 := Lib.hid hO3
                clear e3 hO3
                go_wp2_with fail
                go_roundw
                case rel => exact ⟨i + 1, L2, d3, by omega, HIQ.out, by go_num, rfl, HO3.out, HO2.out.2.1, HO2.out.2.2.stop (.inl rfl)⟩
                case measure => have := HIQ.out; simp [intOf]; omega
              · obtain ⟨j, hj⟩ : ∃ j, k = j + 1 := ⟨k - 1, by omega⟩
                have hkq : k < q := by omega
                have hjq : j < q := by omega
                have xk : (k : Int) - 1 = (j : Int) := by omega
                have xk0 : (0 : Int) ≤ (k : Int) := by omega
                have xk1 : (k : Int) < (q : Int) := by omega
                have xj0 : (0 : Int) ≤ (j : Int) := by omega
                have xj1 : (j : Int) < (q : Int) := by omega
                have wj : IntKind.i64.wrap (j : Int) = (j : Int) := IntWalk.i64_in _ (by omega)
                have y0 : decide ((0 : Int) < (k : Int)) = true := decide_eq_true (by omega)
                have y00 : decide (0 < k) = true := decide_eq_true (by omega)
                have y01 : 0 < k := by omega
                have HJ : Hid (k = j + 1 ∧ k < L2.length ∧ j < L2.length ∧ k ≤ i ∧ i < L2.length) := Lib.hid ⟨hj, by rw [HL2.out]; exact hkq, by rw [HL2.out]; exact hjq, hk, by rw [HL2.out]; exact hlt⟩
                obtain ⟨An, hAn⟩ : ∃ A, 1000 * (ntR L2 k).1.h = A := ⟨_, rfl⟩
                obtain ⟨Ad, hAd⟩ : ∃ A, (ntR L2 k).1.t = A := ⟨_, rfl⟩
                obtain ⟨Bn, hBn⟩ : ∃ A, 1000 * (ntR L2 j).1.h = A := ⟨_, rfl⟩
                obtain ⟨Bd, hBd⟩ : ∃ A, (ntR L2 j).1.t = A := ⟨_, rfl⟩
                have HAB := Lib.hid (And.intro hAn (And.intro hAd (And.intro hBn hBd)))
                have ck0 : ∀ d', (lay w [.inr d', .inr d2]).cell? ⟨g, k * 2, none⟩ = some (.int .i64 An) := fun d' => by
                  have := (owG_on (A := [.inr d']) HO2.out.1).cell prOk (ntR_lt HJ.out.2.1) (j := 0) rfl
                  rw [← hAn]; exact this
                have ck1 : ∀ d', (lay w [.inr d', .inr d2]).cell? ⟨g, k * 2 + 1, none⟩ = some (.int .i64 Ad) := fun d' => by
                  have := (owG_on (A := [.inr d']) HO2.out.1).cell prOk (ntR_lt HJ.out.2.1) (j := 1) rfl
                  rw [← hAd]; exact this
                have cj0 : ∀ d', (lay w [.inr d', .inr d2]).cell? ⟨g, j * 2, none⟩ = some (.int .i64 Bn) := fun d' => by
                  have := (owG_on (A := [.inr d']) HO2.out.1).cell prOk (ntR_lt HJ.out.2.2.1) (j := 0) rfl
                  rw [← hBn]; exact this
                have cj1 : ∀ d', (lay w [.inr d', .inr d2]).cell? ⟨g, j * 2 + 1, none⟩ = some (.int .i64 Bd) := fun d' => by
                  have := (owG_on (A := [.inr d']) HO2.out.1).cell prOk (ntR_lt HJ.out.2.2.1) (j := 1) rfl
                  rw [← hBd]; exact this
                obtain ⟨X, hX⟩ : ∃ X, An * Bd = X := ⟨_, rfl⟩
                obtain ⟨Y, hY⟩ : ∃ Y, Bn * Ad = Y := ⟨_, rfl⟩
                obtain ⟨hcmp, b1, b2, b3, b4⟩ := le_pair (x := ntR L2 j) (y := ntR L2 k) (X := Y) (Y := X) (by rw [hBn, hAd]; exact hY) (by rw [hAn, hBd]; exact hX)
                have wX : IntKind.i64.wrap X = X := IntWalk.i64_in _ (by omega)
                have wY : IntKind.i64.wrap Y = Y := IntWalk.i64_in _ (by omega)
                have HCM := Lib.hid hcmp
                clear hAn hAd hBn hBd hcmp b1 b2 b3 b4 hj hkq hjq
                by_cases hxy : X < Y
                · have y6 : decide (X < Y) = true := decide_eq_true hxy
                  have HNL := Lib.hid (HCM.out.1 hxy)
                  clear hxy
                  go_wp2_with fail
                  refine region_bw (by kernel_rfl) (by kernel_rfl) ?_
                  repeat (go_big_quiet_step ((first | fail)))
                  refine wpQuiet_nil ?_
                  rintro w' ⟨d, rfl⟩
                  rw [lay_bw]
                  obtain ⟨d3, e3⟩ : ∃ x, lay w [.inr d, .inr d2] = lay w [.inr x] := ⟨_, bw_bw _ _ _⟩
                  have hO3 : OwG prR (lay w [.inr d, .inr d2]) (lay w []).heap.size (.slice (some ⟨g, 0, none⟩) q cp) L2 := owG_on (A := [.inr d]) HO2.out.1
                  rw [e3] at hO3 ⊢
                  have HO3 := Lib.hid hO3
                  clear e3 hO3 ck0 ck1 cj0 cj1
                  have ck0 : ∀ d', (lay w [.inr d', .inr d3]).cell? ⟨g, k * 2, none⟩ = some (.int .i64 An) := fun d' => by
                    have := (owG_on (A := [.inr d']) HO3.out).cell prOk (ntR_lt HJ.out.2.1) (j := 0) rfl
                    rw [← HAB.out.1]; exact this
                  have ck1 : ∀ d', (lay w [.inr d', .inr d3]).cell? ⟨g, k * 2 + 1, none⟩ = some (.int .i64 Ad) := fun d' => by
                    have := (owG_on (A := [.inr d']) HO3.out).cell prOk (ntR_lt HJ.out.2.1) (j := 1) rfl
                    rw [← HAB.out.2.1]; exact this
                  have cj0 : ∀ d', (lay w [.inr d', .inr d3]).cell? ⟨g, j * 2, none⟩ = some (.int .i64 Bn) := fun d' => by
                    have := (owG_on (A := [.inr d']) HO3.out).cell prOk (ntR_lt HJ.out.2.2.1) (j := 0) rfl
                    rw [← HAB.out.2.2.1]; exact this
                  have cj1 : ∀ d', (lay w [.inr d', .inr d3]).cell? ⟨g, j * 2 + 1, none⟩ = some (.int .i64 Bd) := fun d' => by
                    have := (owG_on (A := [.inr d']) HO3.out).cell prOk (ntR_lt HJ.out.2.2.1) (j := 1) rfl
                    rw [← HAB.out.2.2.2]; exact this
                  go_wp2_with fail
                  refine region_mixS 15 [(0, 2), (1, 2), (2, 2), (3, 2), (4, 2), (5, 2), (6, 2), (7, 2), (8, 2), (9, 0), (10, 2), (11, 2), (12, 2), (13, 0), (14, 2), (15, 3), (16, 2), (17, 3)] (by kernel_rfl) (by kernel_rfl) (by kernel_rfl) rfl ?_
                  repeat (first | (refine wpMS_pure rfl (fun K hK => ?_); go_simp; refine hK _ ?_; clear hK K) | (refine wpMS_quiet rfl (fun K hK => ?_); go_simp; first | (refine hK _ ?_; clear hK K) | (apply Exists.intro; refine ⟨fun _ => ?_, hK _ ?_⟩; (first | fail); clear hK K)))
                  have fk0 : ∀ d', (lay w [.inr d', .inr d3]).frozen? ⟨g, k * 2, none⟩ = false := fun d' => (owG_on (A := [.inr d']) HO3.out).froz _
                  refine wpMS_store rfl (fun K hK e1 => ?_)
                  obtain ⟨d4, d5, q1, q2, q3, q4, hO5⟩ := owP_store e1 (ntR L2 j) HO3.out hg HJ.out.2.1
                  rw [HAB.out.2.2.1] at q1
                  rw [HAB.out.2.1] at q2
                  rw [HAB.out.2.2.2] at q4
                  go_simp
                  refine hK _ _ ?_
                  clear hK K e1 q1 q2 q3 q4 fk0 ck0 ck1 cj0 cj1
                  have HO5 := Lib.hid hO5
                  have HL5 : Hid (j < (L2.set k (ntR L2 j)).length ∧ (L2.set k (ntR L2 j))[j]? = some (ntR L2 j) ∧ ntR (L2.set k (ntR L2 j)) j = ntR L2 j) := by
                    have hh := HJ.out
                    have h1 : ntR (L2.set k (ntR L2 j)) j = ntR L2 j := by rw [ntR_set (by omega), if_neg (by omega)]
                    have h2 : j < (L2.set k (ntR L2 j)).length := by rw [List.length_set]; omega
                    exact Lib.hid ⟨h2, by rw [ntR_lt h2, h1], h1⟩
                  clear hO5
                  have cj0 : ∀ d', (lay w [.inr d', .inr d5]).cell? ⟨g, j * 2, none⟩ = some (.int .i64 Bn) := fun d' => by
                    have := (owG_on (A := [.inr d']) HO5.out).cell prOk HL5.out.2.1 (j := 0) rfl
                    rw [← HAB.out.2.2.1]; exact this
                  have cj1 : ∀ d', (lay w [.inr d', .inr d5]).cell? ⟨g, j * 2 + 1, none⟩ = some (.int .i64 Bd) := fun d' => by
                    have := (owG_on (A := [.inr d']) HO5.out).cell prOk HL5.out.2.1 (j := 1) rfl
                    rw [← HAB.out.2.2.2]; exact this
                  repeat (first | (refine wpMS_pure rfl (fun K hK => ?_); go_simp; refine hK _ ?_; clear hK K) | (refine wpMS_quiet rfl (fun K hK => ?_); go_simp; first | (refine hK _ ?_; clear hK K) | (apply Exists.intro; refine ⟨fun _ => ?_, hK _ ?_⟩; (first | fail); clear hK K)))
                  have fj0 : ∀ d', (lay w [.inr d', .inr d5]).frozen? ⟨g, j * 2, none⟩ = false := fun d' => (owG_on (A := [.inr d']) HO5.out).froz _
                  refine wpMS_store rfl (fun K hK e2 => ?_)
                  obtain ⟨d6, d7, q1, q2, q3, q4, hO7⟩ := owP_store e2 (ntR L2 k) HO5.out hg HL5.out.1
                  rw [HAB.out.1] at q1
                  rw [HL5.out.2.2, HAB.out.2.2.2] at q2
                  rw [HAB.out.2.1] at q4
                  go_simp
                  refine hK _ _ ?_
                  clear hK K e2 q1 q2 q3 q4 fj0 cj0 cj1
                  have HO7 := Lib.hid hO7
                  clear hO7
                  refine wpMS_nil (fun e6 => ?_)
                  obtain ⟨d8, e8⟩ : ∃ x, lay w [.inr e6, .inr d7] = lay w [.inr x] := ⟨_, bw_bw _ _ _⟩
                  have hO8 := owG_on (A := [.inr e6]) HO7.out
                  change OwG prR (lay w [.inr e6, .inr d7]) _ _ _ at hO8
                  change Exit.inBlock _ _ _ _ (lay w [.inr e6, .inr d7])
                  rw [e8] at hO8 ⊢
                  have HO8 : Hid (OwG prR (lay w [.inr d8]) (lay w []).heap.size (.slice (some ⟨g, 0, none⟩) q cp) (swpR L2 k)) := Lib.hid (by unfold swpR; rw [show k - 1 = j by have := HJ.out.1; omega]; exact hO8)
                  have HP8 : Hid ((swpR L2 k).Perm R0) := Lib.hid ((swpR_perm HJ.out.2.1).trans HO2.out.2.1)
                  have HI8 : Hid (InsR (swpR L2 k) i j) := Lib.hid (by
                    have h := HO2.out.2.2.step (by have := HJ.out.1; omega) HJ.out.2.2.2.1 HJ.out.2.2.2.2 (by rw [show k - 1 = j by have := HJ.out.1; omega]; exact HNL.out)
                    rwa [show k - 1 = j by have := HJ.out.1; omega] at h)
                  clear hO8 e8 HO7 HO5 HL5
                  go_wp2_with fail
                  go_roundw
                  case rel => exact ⟨j, swpR L2 k, d8, by have := HJ.out; omega, by first | rfl | exact congrArg (Value.int .i64) (by omega), rfl, HO8.out, HP8.out, HI8.out⟩
                  case measure => have := HJ.out.1; simp [intOf]; omega
                · have y6 : decide (X < Y) = false := decide_eq_false hxy
                  have HLE : Hid (leR (ntR L2 j) (ntR L2 k)) := Lib.hid (Classical.byContradiction fun hn => hxy (HCM.out.2 hn))
                  clear hxy
                  go_wp2_with fail
                  refine region_bw (by kernel_rfl) (by kernel_rfl) ?_
                  repeat (go_big_quiet_step ((first | fail)))
                  refine wpQuiet_nil ?_
                  rintro w' ⟨d, rfl⟩
                  rw [lay_bw]
                  obtain ⟨d3, e3⟩ : ∃ x, lay w [.inr d, .inr d2] = lay w [.inr x] := ⟨_, bw_bw _ _ _⟩
                  have hO3 : OwG prR (lay w [.inr d, .inr d2]) (lay w []).heap.size (.slice (some ⟨g, 0, none⟩) q cp) L2 := owG_on (A := [.inr d]) HO2.out.1
                  rw [e3] at hO3 ⊢
                  have HO3 := Lib.hid hO3
                  clear e3 hO3 ck0 ck1 cj0 cj1
                  go_wp2_with fail
                  go_roundw
                  case rel => exact ⟨i + 1, L2, d3, by omega, HIQ.out, by go_num, rfl, HO3.out, HO2.out.2.1, HO2.out.2.2.stop (.inr (by rw [show k - 1 = j by have := HJ.out.1; omega]; exact HLE.out))⟩
                  case measure => have := HIQ.out; simp [intOf]; omega
          · obtain rfl : i = q := by omega
            go_wp2_with fail
            go_ret
            exact ⟨_, d1, L, rfl, rfl, HO1.out.1, by rw [HR0.out]; exact HO1.out.2.1, (by have := HO1.out.2.2; rw [← HLq.out] at this; exact this.pair)⟩
end Go.Proofs.YtmomoeagnkjbiaaGreat

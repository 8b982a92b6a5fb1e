/- Contracts and plain laws, several texts in one: Tr3; Rbd; Cln2; Cpy0 -/
import Derived.Test.YthjfadfebhjhbaaGreatProg
import Derived.WalkKit
import Derived.WalkSpells
import Derived.WalkLawsBesides
import Derived.Lib.Hide
import Derived.BigQuiet
import Derived.Test.YthjfadfebhjhbaaGreatQAA
import Derived.Test.YthjfadfebhjhbaaGreatQAB
import Derived.Test.YthjfadfebhjhbaaGreatQAH
import Derived.Test.YthjfadfebhjhbaaGreatQAL
import Derived.Test.YthjfadfebhjhbaaGreatQAM
/- The reference's names of tracks. -/
namespace Go.Proofs.YthjfadfebhjhbaaGreat
open Go.RowKit Go.Sort

def shfN (m : List ByteArray) (j : Nat) : List ByteArray := (m ++ [(⟨#[]⟩ : ByteArray)]).take (j + 1) ++ m.drop j
theorem shfN_top (m : List ByteArray) : shfN m m.length = m ++ [(⟨#[]⟩ : ByteArray)] := by
  unfold shfN
  rw [List.drop_length, List.append_nil, List.take_of_length_le (by simp)]
theorem shfN_get {m : List ByteArray} {j : Nat} {x : ByteArray} (hx : m[j]? = some x) : (shfN m (j + 1))[j]? = some x := by
  have hj := (List.getElem?_eq_some_iff.1 hx).1
  unfold shfN
  rw [List.getElem?_append_left (by rw [List.length_take, List.length_append]; simp; omega), List.getElem?_take_of_lt (by omega), List.getElem?_append_left hj, hx]
theorem shfN_at {m : List ByteArray} {j : Nat} (hj : j ≤ m.length) : ∃ y, (shfN m j)[j]? = some y := by
  unfold shfN
  rw [List.getElem?_append_left (by rw [List.length_take, List.length_append]; simp; omega)]
  exact ⟨_, List.getElem?_eq_getElem (by rw [List.length_take, List.length_append]; simp; omega)⟩
theorem shfN_set {m : List ByteArray} {j : Nat} {x : ByteArray} (hx : m[j]? = some x) : (shfN m (j + 1)).set (j + 1) x = shfN m j := by
  obtain ⟨hj, rfl⟩ := List.getElem?_eq_some_iff.1 hx
  unfold shfN
  have e1 : ((m ++ [(⟨#[]⟩ : ByteArray)]).take (j + 1 + 1)).length = j + 2 := by rw [List.length_take, List.length_append]; simp; omega
  rw [List.set_append_left _ _ (by rw [e1]; omega), List.drop_eq_getElem_cons hj]
  rw [List.take_add_one (i := j + 1), List.set_append_right _ _ (by rw [List.length_take]; exact Nat.min_le_left ..)]
  have e2 : ((m ++ [(⟨#[]⟩ : ByteArray)]).take (j + 1)).length = j + 1 := by rw [List.length_take, List.length_append]; simp; omega
  rw [e2, Nat.sub_self]
  have e3 : j + 1 < (m ++ [(⟨#[]⟩ : ByteArray)]).length := by rw [List.length_append]; simp; omega
  rw [List.getElem?_eq_getElem e3]
  simp
theorem shfN_end {m : List ByteArray} {k : Nat} (s : ByteArray) (hk : k ≤ m.length) : (shfN m k).set k s = insN m k s := by
  unfold shfN insN
  have e1 : ((m ++ [(⟨#[]⟩ : ByteArray)]).take (k + 1)).length = k + 1 := by rw [List.length_take, List.length_append]; simp; omega
  rw [List.set_append_left _ _ (by rw [e1]; omega), List.take_add_one, List.set_append_right _ _ (by rw [List.length_take]; exact Nat.min_le_left ..)]
  have e2 : ((m ++ [(⟨#[]⟩ : ByteArray)]).take k).length = k := by rw [List.length_take, List.length_append]; simp; omega
  have e3 : k < (m ++ [(⟨#[]⟩ : ByteArray)]).length := by rw [List.length_append]; simp; omega
  rw [e2, Nat.sub_self, List.getElem?_eq_getElem e3, List.take_append_of_le_length hk]
  simp
theorem strPost_of {w W : World} {base : Nat} {v : Value} {T : List ByteArray} (h : OwG strR W base v T) (hW : ∃ d, W = bw w d) : StrPost w T (.returned v) W := by
  obtain ⟨d, rfl⟩ := hW
  have hs := h.sl strOk
  rcases h.1.2 with ⟨rfl, _⟩ | ⟨g, cap', cur, rfl, _⟩
  · obtain ⟨a', c', e⟩ := hs.form
    obtain ⟨rfl, h0, rfl⟩ := Value.slice.inj e
    exact ⟨none, 0, d, by rw [← h0], rfl, fun _ => rfl, by rw [← h0]; exact hs⟩
  · obtain ⟨a', c', e⟩ := hs.form
    obtain ⟨rfl, h0, rfl⟩ := Value.slice.inj e
    exact ⟨some ⟨g, 0, none⟩, cap', d, by rw [h0], rfl, (fun h => by cases h), by rw [← h0]; exact hs⟩
theorem wf_empty : strR.wf ⟨#[]⟩ := (by decide : (⟨#[]⟩ : ByteArray).size ≤ 9223372036854775807)
set_option maxHeartbeats 4000000 in
set_option maxRecDepth 100000 in
theorem ref17_Tracked {P : Nat → Prop} (vp vs : Value) (l : List PgV) (w : World) (hv : PgsD P w vp l) (hF : Few l) :
    Calls Tryz.prog 105 #[.agg #[vp, vs]] w (StrPost w (tkL l)) := by
  have HFt := Lib.hid (fun i => few_nms (few_take hF i))
  have HTs := Lib.hid hF.ts
  have hfl := hF.len
  have HHas := Lib.hid ref17_has
  obtain ⟨a, cap, rfl⟩ := pgs_form hv
  have HV := Lib.hid hv
  obtain ⟨q, hq⟩ : ∃ q, l.length = q := ⟨_, rfl⟩
  have HQ := Lib.hid hq
  rw [hq] at hfl HV ⊢
  clear hv hF hq
  refine lay_start ?_
  go_enter Tryz.func105, Tryz.ntmps105
  go_wp2_with fail
  have hW0 : w.heap.size ≤ (lay w [.inl (.cells #[.slice a q cap, vs] 38 (0, 0))]).heap.size := (lay_extends w _).size
  have HW0 := Lib.hid hW0
  clear hW0
  go_loopw [3, 4] (fun v3 v4 wr => ∃ (i : Nat) (d : Ext) (m : List ByteArray), i ≤ q ∧ v4 = .int .i64 (i : Int) ∧ wr = lay w [.inr d, .inl (.cells #[.slice a q cap, vs] 38 (0, 0))] ∧ OwG strR (lay w [.inr d, .inl (.cells #[.slice a q cap, vs] 38 (0, 0))]) (lay w [.inl (.cells #[.slice a q cap, vs] 38 (0, 0))]).heap.size v3 m ∧ TrL (nmsL (l.take i)) m) (fun _ v4 _ => q - (intOf v4).toNat)
  case atStart => exact ⟨0, noExt _, [], Nat.zero_le _, rfl, (bw_noExt _).symm, OwG.nil _ _ _, TrL.nil⟩
  case round =>
    obtain ⟨i, d, m, hi, rfl, rfl, hO, hT⟩ := hrel
    have HO := Lib.hid hO
    have HT := Lib.hid hT
    clear hO hT
    by_cases hlt : i < q
    · obtain ⟨p, hp⟩ : ∃ p, l[i]? = some p := ⟨_, List.getElem?_eq_getElem (by rw [HQ.out]; exact hlt)⟩
      obtain ⟨b, o, cap1, hv1, hcc, hb, -, hr⟩ := HV.out.open (by rw [HQ.out]; omega)
      rw [HQ.out] at hv1
      cases hv1
      obtain ⟨x, hw, hD, c0, c1, c2, c3⟩ := hr i p hp
      rw [HQ.out] at hcc
      have htn := HTs.out p (List.mem_of_getElem? hp)
      have HSn := Lib.hid (nms_snoc hp)
      have HLen := Lib.hid (HFt.out i)
      have hts := hD.ts
      obtain ⟨nt, hnt⟩ : ∃ nt, p.ts.length = nt := ⟨_, rfl⟩
      have HNt := Lib.hid hnt
      have x1 : (i : Int) < (q : Int) := by omega
      have x0 : (0 : Int) ≤ (i : Int) := by omega
      rw [hnt] at htn
      clear hD hw hp hr
      obtain ⟨xy, xm, xd, ta, tn, tc⟩ := x
      dsimp only at c0 c1 c2 c3 hts
      obtain ⟨a', c', hv'⟩ := hts.form
      rw [hnt] at hv'
      cases hv'
      have HTsD := Lib.hid hts
      clear hts hnt
      go_wp2_with fail
      go_loopw [3, 5] (fun v3 v5 wr => ∃ (k : Nat) (dk : Ext) (m : List ByteArray), k ≤ nt ∧ v5 = .int .i64 (k : Int) ∧ wr = lay w [.inr dk, .inl (.cells #[.slice (some ⟨b, o, none⟩) q cap, vs] 38 (0, 0))] ∧ OwG strR (lay w [.inr dk, .inl (.cells #[.slice (some ⟨b, o, none⟩) q cap, vs] 38 (0, 0))]) (lay w [.inl (.cells #[.slice (some ⟨b, o, none⟩) q cap, vs] 38 (0, 0))]).heap.size v3 m ∧ TrL (nmsL (l.take i) ++ (p.ts.take k).map TrkV.s) m) (fun _ v5 _ => nt - (intOf v5).toNat)
      case atStart =>
        exact ⟨0, d, m, Nat.zero_le _, rfl, rfl, HO.out, by have h := HT.out; rw [← List.append_nil (nmsL (l.take i))] at h; exact h⟩
      case round =>
        clear HO HT m
        obtain ⟨k, dk, m, hk, rfl, rfl, hI, hT⟩ := hrel
        have HI := Lib.hid hI
        have HT := Lib.hid hT
        clear hI hT
        by_cases hkt : k < nt
        · obtain ⟨t, htt⟩ : ∃ t, p.ts[k]? = some t := ⟨_, List.getElem?_eq_getElem (by rw [HNt.out]; exact hkt)⟩
          obtain ⟨b2, o2, cap2, hv', hcc2, hb2, -, hr2⟩ := HTsD.out.open (by rw [HNt.out]; omega)
          rw [HNt.out] at hv'
          cases hv'
          obtain ⟨z, hzw, hzD, e0, e1, e2, e3, e4, e5⟩ := hr2 k t htt
          rw [HNt.out] at hcc2
          have HSk : Hid (nmsL (l.take i) ++ (p.ts.take k).map TrkV.s ++ [t.s] = nmsL (l.take i) ++ (p.ts.take (k + 1)).map TrkV.s) := Lib.hid (by rw [List.take_add_one, htt]; simp)
          have HLk : Hid ((nmsL (l.take i) ++ (p.ts.take k).map TrkV.s).length ≤ 1000000000) := Lib.hid (by have := HLen.out; simp only [List.length_append, List.length_map, List.length_take]; omega)
          have HLm : Hid (m.length ≤ 1000000000) := Lib.hid (Nat.le_trans HT.out.spec.2.2 HLk.out)
          have hzs := hzD.s
          have HZw := Lib.hid hzw.1
          have y1 : (k : Int) < (nt : Int) := by omega
          have y0 : (0 : Int) ≤ (k : Int) := by omega
          clear hzD hzw htt hr2
          obtain ⟨zs, za, zn, zc, zda, zdn, zdc, zp, zq, zr⟩ := z
          dsimp only at hzs e0 e1 e2 e3 e4 e5 HZw
          rw [← hzs] at HSk
          clear hzs
          generalize hQ : nmsL (l.take i) ++ (p.ts.take k).map TrkV.s = Q at *
          clear hQ
          have HH := Lib.hid (HHas.out _ m zs _ (HI.out.sl strOk))
          go_wp2_with fail
          refine HH.out.mono ?_
          rintro e w' ⟨rfl, d1, rfl⟩
          cases hhas : hasB m zs
          case true =>
            have HX := Lib.hid (TrL.had HT.out hhas)
            obtain ⟨dT, hdT⟩ := lay_in w [.inr d1, .inr dk] [.inl (.cells #[.slice (some ⟨b, o, none⟩) q cap, vs] 38 (0, 0))]
            have HdT := Lib.hid hdT
            clear hdT hhas
            go_wp2_with fail
            go_roundw
            case rel => exact ⟨k + 1, dT, m, by omega, by go_num, HdT.out, by have h : OwG strR (lay w ([.inr d1, .inr dk] ++ [.inl (.cells #[.slice (some ⟨b, o, none⟩) q cap, vs] 38 (0, 0))])) _ _ _ := owG_on (A := [.inr d1]) HI.out; rw [HdT.out] at h; exact h, by have h := HX.out; rw [HSk.out] at h; exact h⟩
            case measure => simp [intOf]; omega
          case false =>
            have HX := Lib.hid (fun k => TrL.put (k := k) HT.out hhas)
            clear hhas
            go_wp2_with fail
            obtain ⟨n, hn⟩ : ∃ n, m.length = n := ⟨_, rfl⟩
            have HN := Lib.hid hn
            have hn1 : n ≤ 1000000000 := by rw [← hn]; exact HLm.out
            obtain ⟨va, vc, hu⟩ := HI.out.form
            rw [hn] at hu HX
            subst hu
            clear hn
            go_loopw [7] (fun v7 wr => ∃ (j : Nat) (dj : Ext), j ≤ n ∧ v7 = .int .i64 (j : Int) ∧ wr = lay w [.inr dj, .inl (.cells #[.slice (some ⟨b, o, none⟩) q cap, vs] 38 (0, 0))] ∧ OwG strR (lay w [.inr dj, .inl (.cells #[.slice (some ⟨b, o, none⟩) q cap, vs] 38 (0, 0))]) (lay w [.inl (.cells #[.slice (some ⟨b, o, none⟩) q cap, vs] 38 (0, 0))]).heap.size (.slice va n vc) m ∧ ∀ (i : Nat) x, i < j → m[i]? = some x → ltB x zs = true) (fun v7 _ => n - (intOf v7).toNat)
            case atStart =>
              obtain ⟨dT, hdT⟩ := lay_in w [.inr d1, .inr dk] [.inl (.cells #[.slice (some ⟨b, o, none⟩) q cap, vs] 38 (0, 0))]
              exact ⟨0, dT, Nat.zero_le _, rfl, hdT, by have h : OwG strR (lay w ([.inr d1, .inr dk] ++ [.inl (.cells #[.slice (some ⟨b, o, none⟩) q cap, vs] 38 (0, 0))])) _ _ _ := owG_on (A := [.inr d1]) HI.out; rw [hdT] at h; exact h, fun i x hi => absurd hi (Nat.not_lt_zero i)⟩
            case round =>
              clear HI HT HH
              obtain ⟨j, dj, hj, rfl, rfl, hI, hA⟩ := hrel
              have HI := Lib.hid hI
              have HA := Lib.hid hA
              clear hI hA
              have hyp : ∀ (k : Nat), k ≤ n → (∀ x, m[k]? = some x → ltB x zs = false) → (∀ (i : Nat) x, i < k → m[i]? = some x → ltB x zs = true) → TrL (Q ++ [zs]) (insN m k zs) := fun k h1 h2 h3 => HX.out k h1 h3 h2
              have HY := Lib.hid hyp
              clear hyp HX
              by_cases hjn : j < n
              · obtain ⟨x, hx⟩ : ∃ x, m[j]? = some x := ⟨_, List.getElem?_eq_getElem (by rw [HN.out]; exact hjn)⟩
                obtain ⟨g, cap', hg, hg0, hg1, hg2, hg3⟩ := HI.out.form1 (by rw [HN.out]; omega)
                rw [HN.out] at hg hg2
                cases hg
                have e6 : (lay w [.inr dj, .inl (.cells #[.slice (some ⟨b, o, none⟩) q cap, vs] 38 (0, 0))]).cell? ⟨g, j, none⟩ = some (.string x) := by
                  have := HI.out.cell strOk hx (j := 0) (u := .string x) rfl
                  simpa [strR] using this
                have z1 : (j : Int) < (n : Int) := by omega
                have z0 : (0 : Int) ≤ (j : Int) := by omega
                have HXx := Lib.hid hx
                clear hx
                cases hlx : ltB x zs
                case true =>
                  have t1 : Op.bytesLess x.toList zs.toList = true := hlx
                  have HLx := Lib.hid hlx
                  clear hlx
                  go_wp2_with fail
                  go_roundw
                  case rel => exact ⟨j + 1, dj, by omega, by go_num, rfl, HI.out, fun i y hi hy => by
                    rcases Nat.lt_succ_iff_lt_or_eq.1 hi with h | h
                    · exact HA.out i y h hy
                    · subst h; rw [HXx.out] at hy; cases hy; exact HLx.out⟩
                  case measure => simp [intOf]; omega
                case false =>
                  have t1 : Op.bytesLess x.toList zs.toList = false := hlx
                  have HZ := Lib.hid (HY.out j hj (fun y hy => by rw [HXx.out] at hy; cases hy; exact hlx) HA.out)
                  clear hlx HXx
                  go_wp2_with (at_builtin; refine push_rec strOk rfl _ _ rfl (lay w [.inl (.cells #[.slice (some ⟨b, o, none⟩) q cap, vs] 38 (0, 0))]) _ ⟨#[]⟩ #[.string ⟨#[]⟩] 9 (posn w [dj.n, 1]) _ m (lay_belowG (A := [_, _]) (B := [.inl (.cells #[.slice (some ⟨b, o, none⟩) q cap, vs] 38 (0, 0))])) (owG_on (A := [_]) HI.out) (lay_get w _ 0 _ rfl) rfl rfl rfl HLm.out wf_empty ?_; intro v3 d3 hv3)
                  obtain ⟨g3, cap3, hg3e, hg30, hg31, hg32, hg33⟩ := hv3.form1 (by simp)
                  rw [← shfN_top, HN.out] at hv3
                  rw [List.length_append, HN.out] at hg3e hg32
                  change v3 = .slice (some ⟨g3, 0, none⟩) (n + 1) cap3 at hg3e
                  change n + 1 ≤ cap3 at hg32
                  subst hg3e
                  obtain ⟨n1, hn2⟩ : ∃ n1, n + 1 = n1 := ⟨_, rfl⟩
                  rw [hn2] at hv3 hg32 ⊢
                  have hn3 : n1 ≤ 1000000001 := by omega
                  have w1 : IntKind.i64.wrap ((n1 : Int) - 1) = (n : Int) := by rw [IntWalk.i64_in _ (by omega)]; omega
                  have HN1 := Lib.hid hn2
                  clear hn2
                  have H3 := Lib.hid hv3
                  clear hv3
                  rename_i K hK
                  go_simp
                  refine hK _ _ ?_
                  clear hK K
                  go_wp2_with fail
                  clear HI
                  go_loopw [8] (fun v8 wr => ∃ (i : Nat) (dd : Ext), (j ≤ i ∧ i ≤ n) ∧ v8 = .int .i64 (i : Int) ∧ wr = lay w [.inr dd, .inl (.cells #[.slice (some ⟨b, o, none⟩) q cap, vs] 38 (0, 0))] ∧ OwG strR (lay w [.inr dd, .inl (.cells #[.slice (some ⟨b, o, none⟩) q cap, vs] 38 (0, 0))]) (lay w [.inl (.cells #[.slice (some ⟨b, o, none⟩) q cap, vs] 38 (0, 0))]).heap.size (.slice (some ⟨g3, 0, none⟩) n1 cap3) (shfN m i)) (fun v8 _ => (intOf v8).toNat)
                  case atStart => exact ⟨n, d3, ⟨hj, Nat.le_refl _⟩, by go_num, rfl, H3.out⟩
                  case round =>
                    clear H3
                    obtain ⟨i1, dd, ⟨hi1, hi2⟩, rfl, rfl, hS⟩ := hrel
                    have HS := Lib.hid hS
                    clear hS
                    have hg4 : g3 < (lay w [.inr dd, .inl (.cells #[.slice (some ⟨b, o, none⟩) q cap, vs] 38 (0, 0))]).heap.size := by
                      obtain ⟨g5, c5, e5, _, h5, _⟩ := HS.out.form1 (by unfold shfN; simp; omega)
                      cases e5; exact h5
                    by_cases hji : j < i1
                    · obtain ⟨i', rfl⟩ : ∃ i', i1 = i' + 1 := ⟨i1 - 1, by omega⟩
                      obtain ⟨x', hx'⟩ : ∃ x', m[i']? = some x' := ⟨_, List.getElem?_eq_getElem (by rw [HN.out]; omega)⟩
                      obtain ⟨y', hy'⟩ := shfN_at (m := m) (j := i' + 1) (by rw [HN.out]; exact hi2)
                      have q1 : (lay w [.inr dd, .inl (.cells #[.slice (some ⟨b, o, none⟩) q cap, vs] 38 (0, 0))]).cell? ⟨g3, i', none⟩ = some (.string x') := by
                        have := HS.out.cell strOk (shfN_get hx') (j := 0) (u := .string x') rfl
                        simpa [strR] using this
                      have q2 : (lay w [.inr dd, .inl (.cells #[.slice (some ⟨b, o, none⟩) q cap, vs] 38 (0, 0))]).cell? ⟨g3, i' + 1, none⟩ = some (.string y') := by
                        have := HS.out.cell strOk hy' (j := 0) (u := .string y') rfl
                        simpa [strR] using this
                      have q3 : (lay w [.inr dd, .inl (.cells #[.slice (some ⟨b, o, none⟩) q cap, vs] 38 (0, 0))]).frozen? ⟨g3, i' + 1, none⟩ = false := HS.out.froz (i' + 1)
                      have HSt : Hid (OwG strR ((lay w [.inr dd, .inl (.cells #[.slice (some ⟨b, o, none⟩) q cap, vs] 38 (0, 0))]).setCell ⟨g3, i' + 1, none⟩ (.string x')) (lay w [.inl (.cells #[.slice (some ⟨b, o, none⟩) q cap, vs] 38 (0, 0))]).heap.size (.slice (some ⟨g3, 0, none⟩) n1 cap3) (shfN m i')) := Lib.hid (by
                        have := owG_store strOk HS.out (i := i' + 1) (j := 0) (x := y') (y := x') (u := .string x') hy' (by decide) rfl ?_
                        · rw [shfN_set hx'] at this; simpa [strR] using this
                        · exact HS.out.2 _ (List.mem_of_getElem? (shfN_get hx')))
                      have e1 : ((i' + 1 : Nat) : Int) = (i' : Int) + 1 := by omega
                      have e2 : ((i' : Int) + 1).toNat = i' + 1 := by omega
                      have z1 : (j : Int) < (i' : Int) + 1 := by omega
                      have z2 : (i' : Int) + 1 < (n1 : Int) := by have := HN1.out; omega
                      have z3 : (0 : Int) ≤ (i' : Int) + 1 := by omega
                      have z4 : IntKind.i64.wrap ((i' : Int) + 1 - 1) = (i' : Int) := by rw [IntWalk.i64_in _ (by omega)]; omega
                      clear hx' hy'
                      rw [e1]
                      go_wp2_with fail
                      go_roundw
                      case rel =>
                        obtain ⟨d5, hd5⟩ := bw_storeG (w := lay w [.inl (.cells #[.slice (some ⟨b, o, none⟩) q cap, vs] 38 (0, 0))]) (d := dd) (i := i' + 1) (v := .string x') hg30
                        exact ⟨i', d5, ⟨by omega, by omega⟩, rfl, hd5, by have h := HSt.out; rw [show (lay w [.inr dd, .inl (.cells #[.slice (some ⟨b, o, none⟩) q cap, vs] 38 (0, 0))]).setCell ⟨g3, i' + 1, none⟩ (.string x') = _ from hd5] at h; exact h⟩
                      case measure => simp [intOf]
                    · obtain rfl : i1 = j := by omega
                      obtain ⟨y', hy'⟩ := shfN_at (m := m) (j := i1) (by rw [HN.out]; exact hi2)
                      have q2 : (lay w [.inr dd, .inl (.cells #[.slice (some ⟨b, o, none⟩) q cap, vs] 38 (0, 0))]).cell? ⟨g3, i1, none⟩ = some (.string y') := by
                        have := HS.out.cell strOk hy' (j := 0) (u := .string y') rfl
                        simpa [strR] using this
                      have q3 : (lay w [.inr dd, .inl (.cells #[.slice (some ⟨b, o, none⟩) q cap, vs] 38 (0, 0))]).frozen? ⟨g3, i1, none⟩ = false := HS.out.froz i1
                      have z1 : ¬ (i1 : Int) < (i1 : Int) := by omega
                      have z2 : (i1 : Int) < (n1 : Int) := by have := HN1.out; omega
                      have z3 : (0 : Int) ≤ (i1 : Int) := by omega
                      have HSt : Hid (OwG strR ((lay w [.inr dd, .inl (.cells #[.slice (some ⟨b, o, none⟩) q cap, vs] 38 (0, 0))]).setCell ⟨g3, i1, none⟩ (.string zs)) (lay w [.inl (.cells #[.slice (some ⟨b, o, none⟩) q cap, vs] 38 (0, 0))]).heap.size (.slice (some ⟨g3, 0, none⟩) n1 cap3) (insN m i1 zs)) := Lib.hid (by
                        have := owG_store strOk HS.out (i := i1) (j := 0) (x := y') (y := zs) (u := .string zs) hy' (by decide) rfl HZw.out
                        rw [shfN_end zs (by rw [HN.out]; exact hi2)] at this; simpa [strR] using this)
                      clear hy'
                      go_wp2_with fail
                      go_roundw
                      case rel =>
                        obtain ⟨d5, hd5⟩ := bw_storeG (w := lay w [.inl (.cells #[.slice (some ⟨b, o, none⟩) q cap, vs] 38 (0, 0))]) (d := dd) (i := i1) (v := .string zs) hg30
                        exact ⟨k + 1, d5, insN m i1 zs, by omega, by go_num, hd5, by have h := HSt.out; rw [show (lay w [.inr dd, .inl (.cells #[.slice (some ⟨b, o, none⟩) q cap, vs] 38 (0, 0))]).setCell ⟨g3, i1, none⟩ (.string zs) = _ from hd5] at h; exact h, by have h := HZ.out; rw [HSk.out] at h; exact h⟩
                      case measure => simp [intOf]; omega
              · have z1 : ¬ (j : Int) < (n : Int) := by omega
                have HZ := Lib.hid (HY.out j hj (fun y hy => by rw [List.getElem?_eq_none (by rw [HN.out]; omega)] at hy; cases hy) HA.out)
                go_wp2_with (at_builtin; refine push_rec strOk rfl _ _ rfl (lay w [.inl (.cells #[.slice (some ⟨b, o, none⟩) q cap, vs] 38 (0, 0))]) _ ⟨#[]⟩ #[.string ⟨#[]⟩] 9 (posn w [dj.n, 1]) _ m (lay_belowG (A := [_, _]) (B := [.inl (.cells #[.slice (some ⟨b, o, none⟩) q cap, vs] 38 (0, 0))])) (owG_on (A := [_]) HI.out) (lay_get w _ 0 _ rfl) rfl rfl rfl HLm.out wf_empty ?_; intro v3 d3 hv3)
                obtain ⟨g3, cap3, hg3e, hg30, hg31, hg32, hg33⟩ := hv3.form1 (by simp)
                rw [← shfN_top, HN.out] at hv3
                rw [List.length_append, HN.out] at hg3e hg32
                change v3 = .slice (some ⟨g3, 0, none⟩) (n + 1) cap3 at hg3e
                change n + 1 ≤ cap3 at hg32
                subst hg3e
                obtain ⟨n1, hn2⟩ : ∃ n1, n + 1 = n1 := ⟨_, rfl⟩
                rw [hn2] at hv3 hg32 ⊢
                have hn3 : n1 ≤ 1000000001 := by omega
                have w1 : IntKind.i64.wrap ((n1 : Int) - 1) = (n : Int) := by rw [IntWalk.i64_in _ (by omega)]; omega
                have HN1 := Lib.hid hn2
                clear hn2
                have H3 := Lib.hid hv3
                clear hv3
                rename_i K hK
                go_simp
                refine hK _ _ ?_
                clear hK K
                go_wp2_with fail
                clear HI
                go_loopw [8] (fun v8 wr => ∃ (i : Nat) (dd : Ext), (j ≤ i ∧ i ≤ n) ∧ v8 = .int .i64 (i : Int) ∧ wr = lay w [.inr dd, .inl (.cells #[.slice (some ⟨b, o, none⟩) q cap, vs] 38 (0, 0))] ∧ OwG strR (lay w [.inr dd, .inl (.cells #[.slice (some ⟨b, o, none⟩) q cap, vs] 38 (0, 0))]) (lay w [.inl (.cells #[.slice (some ⟨b, o, none⟩) q cap, vs] 38 (0, 0))]).heap.size (.slice (some ⟨g3, 0, none⟩) n1 cap3) (shfN m i)) (fun v8 _ => (intOf v8).toNat)
                case atStart => exact ⟨n, d3, ⟨hj, Nat.le_refl _⟩, by go_num, rfl, H3.out⟩
                case round =>
                  clear H3
                  obtain ⟨i1, dd, ⟨hi1, hi2⟩, rfl, rfl, hS⟩ := hrel
                  have HS := Lib.hid hS
                  clear hS
                  have hg4 : g3 < (lay w [.inr dd, .inl (.cells #[.slice (some ⟨b, o, none⟩) q cap, vs] 38 (0, 0))]).heap.size := by
                    obtain ⟨g5, c5, e5, _, h5, _⟩ := HS.out.form1 (by unfold shfN; simp; omega)
                    cases e5; exact h5
                  by_cases hji : j < i1
                  · exact absurd hji (by omega)
                  · obtain rfl : i1 = j := by omega
                    obtain ⟨y', hy'⟩ := shfN_at (m := m) (j := i1) (by rw [HN.out]; exact hi2)
                    have q2 : (lay w [.inr dd, .inl (.cells #[.slice (some ⟨b, o, none⟩) q cap, vs] 38 (0, 0))]).cell? ⟨g3, i1, none⟩ = some (.string y') := by
                      have := HS.out.cell strOk hy' (j := 0) (u := .string y') rfl
                      simpa [strR] using this
                    have q3 : (lay w [.inr dd, .inl (.cells #[.slice (some ⟨b, o, none⟩) q cap, vs] 38 (0, 0))]).frozen? ⟨g3, i1, none⟩ = false := HS.out.froz i1
                    have z1 : ¬ (i1 : Int) < (i1 : Int) := by omega
                    have z2 : (i1 : Int) < (n1 : Int) := by have := HN1.out; omega
                    have z3 : (0 : Int) ≤ (i1 : Int) := by omega
                    have HSt : Hid (OwG strR ((lay w [.inr dd, .inl (.cells #[.slice (some ⟨b, o, none⟩) q cap, vs] 38 (0, 0))]).setCell ⟨g3, i1, none⟩ (.string zs)) (lay w [.inl (.cells #[.slice (some ⟨b, o, none⟩) q cap, vs] 38 (0, 0))]).heap.size (.slice (some ⟨g3, 0, none⟩) n1 cap3) (insN m i1 zs)) := Lib.hid (by
                      have := owG_store strOk HS.out (i := i1) (j := 0) (x := y') (y := zs) (u := .string zs) hy' (by decide) rfl HZw.out
                      rw [shfN_end zs (by rw [HN.out]; exact hi2)] at this; simpa [strR] using this)
                    clear hy'
                    go_wp2_with fail
                    go_roundw
                    case rel =>
                      obtain ⟨d5, hd5⟩ := bw_storeG (w := lay w [.inl (.cells #[.slice (some ⟨b, o, none⟩) q cap, vs] 38 (0, 0))]) (d := dd) (i := i1) (v := .string zs) hg30
                      exact ⟨k + 1, d5, insN m i1 zs, by omega, by go_num, hd5, by have h := HSt.out; rw [show (lay w [.inr dd, .inl (.cells #[.slice (some ⟨b, o, none⟩) q cap, vs] 38 (0, 0))]).setCell ⟨g3, i1, none⟩ (.string zs) = _ from hd5] at h; exact h, by have h := HZ.out; rw [HSk.out] at h; exact h⟩
                    case measure => simp [intOf]; omega
        · obtain rfl : k = nt := by omega
          have HSf : Hid (nmsL (l.take i) ++ (p.ts.take k).map TrkV.s = nmsL (l.take (i + 1))) := Lib.hid (by rw [HSn.out, ← HNt.out, List.take_length]; rfl)
          have y1 : ¬ (k : Int) < (k : Int) := by omega
          go_wp2_with fail
          go_roundw
          case rel => exact ⟨i + 1, dk, m, by omega, by go_num, rfl, HI.out, by rw [← HSf.out]; exact HT.out⟩
          case measure => simp [intOf]; omega
    · obtain rfl : i = q := by omega
      have hT := HT.out
      rw [show l.take i = l by rw [← HQ.out]; exact List.take_length] at hT
      have hm := hT.eq
      subst hm
      have x1 : ¬ (i : Int) < (i : Int) := by omega
      clear hT HT
      go_wp2_with fail
      go_ret
      exact strPost_of HO.out (lay_ex _ _)
end Go.Proofs.YthjfadfebhjhbaaGreat
/- The reference's bodies. -/
namespace Go.Proofs.YthjfadfebhjhbaaGreat
open Go.RowKit Go.Sort

set_option maxHeartbeats 1000000 in
set_option maxRecDepth 100000 in
theorem ref17_Bodies {P : Nat → Prop} (vp vs : Value) (lp : List PgV) (l : List StarV) (w : World) (hp : PgsD P w vp lp) (hF : Few lp) (hv : SlG stR w vs l) (hl : l.length ≤ 1000000) :
    Calls Tryz.prog 60 #[.agg #[vp, vs]] w (StrOwn w ([ariesS] ++ tkL lp ++ l.map StarV.s)) := by
  obtain ⟨T, hT⟩ : ∃ T, tkL lp = T := ⟨_, rfl⟩
  have HT1 : Hid (T.length ≤ 1000000) := Lib.hid (by
    rw [← hT]
    have h1 := onceS_len ((nmsL lp).map ofB)
    rw [List.length_map] at h1
    have h2 := few_nms hF
    unfold tkL; rw [List.length_map]; omega)
  have HT := Lib.hid (fun L => ref17_Tracked vp vs lp (lay w L) (hp.lay L) hF)
  rw [hT] at HT ⊢
  have HL := Lib.hid hl
  obtain ⟨va, vc, rfl⟩ := hv.form
  have HV := Lib.hid hv
  obtain ⟨m, hm⟩ : ∃ m, l.length = m := ⟨_, rfl⟩
  have HM := Lib.hid hm
  have HW := Lib.hid hv.wf
  rw [hm] at HV HT HL ⊢
  obtain ⟨F, hFe⟩ : ∃ F, [ariesS] ++ T ++ l.map StarV.s = F := ⟨_, rfl⟩
  have HFe := Lib.hid hFe
  rw [hFe]
  clear hl hv hp hF hT hm hFe
  refine lay_start ?_
  go_enter Tryz.func60, Tryz.ntmps60
  go_wp2_with fail
  refine (HT.out _).mono ?_
  rintro e w' ⟨A, c, d1, rfl, rfl, hA, hS⟩
  rw [lay_bw] at hS ⊢
  have HS := Lib.hid hS
  have HA := Lib.hid hA
  clear hS hA
  go_wp2_with (at_builtin; refine push_slG strOk rfl _ _ rfl (lay w [.inl (.cells #[vp, .slice va m vc] 38 (0, 0))]) _ _ [ariesS] A T.length c T (lay_belowG (A := [_, _]) (B := [.inl (.cells #[vp, .slice va m vc] 38 (0, 0))])) (owG_on (A := [_]) (owG_lit strOk [ariesS] (str_flat1 _) (by decide) aries_wf)) HS.out HA.out rfl rfl (by have := HT1.out; simp only [List.length_cons, List.length_nil]; omega) ?_; intro v2 d2 hv2)
  obtain ⟨Q0, hQ0⟩ : ∃ Q0, Q0 = [ariesS] ++ T := ⟨_, rfl⟩
  have HQ0 := Lib.hid hQ0
  rw [← hQ0] at hv2
  have H2 := Lib.hid hv2
  obtain ⟨v2a, v2c, rfl⟩ := hv2.form
  clear hv2 hQ0
  generalize Q0.length = n0 at *
  go_wp2_with fail
  go_loopw [3, 4] (fun v3 v4 wr => ∃ (i : Nat) (d : Ext), i ≤ m ∧ v4 = .int .i64 (i : Int) ∧ wr = lay w [.inr d, .inl (.cells #[vp, .slice va m vc] 38 (0, 0))] ∧ OwG strR (lay w [.inr d, .inl (.cells #[vp, .slice va m vc] 38 (0, 0))]) (lay w [.inl (.cells #[vp, .slice va m vc] 38 (0, 0))]).heap.size v3 (Q0 ++ (l.take i).map StarV.s)) (fun _ v4 _ => m - (intOf v4).toNat)
  case atStart => exact ⟨0, d2, Nat.zero_le _, rfl, rfl, by have h := H2.out; rw [← List.append_nil Q0] at h; exact h⟩
  case round =>
    clear H2 HS HA
    obtain ⟨i, d, hi, rfl, rfl, hO⟩ := hrel
    have HO := Lib.hid hO
    clear hO
    by_cases hlt : i < m
    · obtain ⟨x, hx⟩ : ∃ x, l[i]? = some x := ⟨_, List.getElem?_eq_getElem (by rw [HM.out]; exact hlt)⟩
      obtain ⟨bs, os, cs, hvs, hcs, hbs, hr⟩ := HV.out.open (by rw [HM.out]; omega)
      rw [HM.out] at hvs hcs
      cases hvs
      have e0 : w.cell? ⟨bs, os + i * 4, none⟩ = some (.string x.s) := hr i x hx 0 _ rfl
      have e1 : w.cell? ⟨bs, os + i * 4 + 1, none⟩ = some (.int .i64 x.sha) := hr i x hx 1 _ rfl
      have e2 : w.cell? ⟨bs, os + i * 4 + 2, none⟩ = some (.int .i64 x.dec) := hr i x hx 2 _ rfl
      have e3 : w.cell? ⟨bs, os + i * 4 + 3, none⟩ = some (.int .i64 x.mag) := hr i x hx 3 _ rfl
      have x1 : (i : Int) < (m : Int) := by omega
      have x0 : (0 : Int) ≤ (i : Int) := by omega
      have HWx := Lib.hid (HW.out x (List.mem_of_getElem? hx)).1
      have HLn : Hid ((Q0 ++ (l.take i).map StarV.s).length ≤ 1000000000) := Lib.hid (by have h1 := HT1.out; have h2 := HL.out; rw [HQ0.out]; simp only [List.length_append, List.length_map, List.length_take, List.length_cons, List.length_nil]; omega)
      have HN : Hid (Q0 ++ (l.take i).map StarV.s ++ [x.s] = Q0 ++ (l.take (i + 1)).map StarV.s) := Lib.hid (by rw [List.take_add_one, hx]; simp)
      clear hx hr
      generalize hQ : Q0 ++ (l.take i).map StarV.s = Q at *
      clear hQ
      obtain ⟨xs, xa, xb, xc⟩ := x
      dsimp only at e0 e1 e2 e3 HWx HN
      go_wp2_with (at_builtin; refine push_rec strOk rfl _ _ rfl (lay w [.inl (.cells #[vp, .slice (some ⟨bs, os, none⟩) m vc] 38 (0, 0))]) _ xs #[.string xs] 9 (posn w [d.n, 1]) _ Q (lay_belowG (A := [_, _]) (B := [_])) (owG_on (A := [_]) HO.out) (lay_get w _ 0 _ rfl) rfl rfl rfl HLn.out HWx.out ?_; intro v3 d3 hv3)
      have H3 := Lib.hid hv3
      clear hv3
      go_wp2_with fail
      go_roundw
      case rel =>
        exact ⟨i + 1, d3, by omega, by go_num, rfl, by have h3 := H3.out; rw [HN.out] at h3; exact h3⟩
      case measure => simp [intOf]; omega
    · obtain rfl : i = m := by omega
      have x1 : ¬ (i : Int) < (i : Int) := by omega
      have HN : Hid (l.take i = l) := Lib.hid (by rw [← HM.out]; exact List.take_length)
      rw [HN.out] at HO
      go_wp2_with fail
      go_ret
      obtain ⟨d9, hd9⟩ := lay_ex w [.inr d, .inl (.cells #[vp, .slice va i vc] 38 (0, 0))]
      have h := HO.out.le (lay_extends w _).size
      rw [HQ0.out, HFe.out] at h
      refine ⟨_, d9, rfl, hd9, ?_⟩
      rw [← hd9]
      exact h
end Go.Proofs.YthjfadfebhjhbaaGreat
/- slices.Clone at tracks, pages, ints. -/
namespace Go.Proofs.YthjfadfebhjhbaaGreat
open Go.RowKit

set_option maxRecDepth 100000 in
theorem cln_Track (v : Value) (l : List TkW) (w : World) (hv : SlG tkR w v l) (hn : l.length ≤ 1000000000) :
    Calls Tryz.prog 128 #[v] w (ClnPost tkR w l) := by
  unfold ClnPost
  by_cases hz : l = []
  · subst hz
    obtain ⟨a, c, rfl⟩ := hv.form
    cases a with
    | none =>
      refine lay_start ?_
      have qT : ∀ (w : World) (a : Option Addr) (n c : Nat), (binOp .eql 136 (.slice a n c) (.slice none 0 0)).run Tryz.prog w = .ok (.bool a.isNone) w := fun w a n c => Lib.run_eql_slice_nil w _ _ a n c 0 0 tkOk.und
      go_enter Tryz.func128, Tryz.ntmps128
      go_wp2_with fail
      go_ret
      exact ⟨_, noExt _, rfl, (bw_noExt _).symm, OwG.nil _ _ _⟩
    | some a =>
      refine lay_start ?_
      have HV := Lib.hid (fun L => hv.lay L)
      have qT : ∀ (w : World) (a : Option Addr) (n c : Nat), (binOp .eql 136 (.slice a n c) (.slice none 0 0)).run Tryz.prog w = .ok (.bool a.isNone) w := fun w a n c => Lib.run_eql_slice_nil w _ _ a n c 0 0 tkOk.und
      go_enter Tryz.func128, Tryz.ntmps128
      go_wp2_with (at_builtin; refine push_slG tkOk rfl _ _ rfl (lay w []) _ _ _ (some a) 0 c [] (lay_belowG (A := [_]) (B := [])) (owG_empty' _ (A := []) (B := []) (L := [])) (HV.out _) (fun h => by cases h) rfl rfl (by simp) ?_; intro v' d' hv')
      obtain ⟨va, vc, hve⟩ := hv'.form
      have H' := Lib.hid hv'
      subst hve
      clear hv'
      go_wp2_with fail
      go_ret
      exact ⟨_, d', rfl, rfl, H'.out⟩
  · obtain ⟨b, o, cap, rfl, hc, hb, hr⟩ := hv.open (List.length_pos_iff.2 hz)
    have HV := Lib.hid (fun L => hv.lay L)
    have HN := Lib.hid hn
    clear hr hv hz
    refine lay_start ?_
    have qT : ∀ (w : World) (a : Option Addr) (n c : Nat), (binOp .eql 136 (.slice a n c) (.slice none 0 0)).run Tryz.prog w = .ok (.bool a.isNone) w := fun w a n c => Lib.run_eql_slice_nil w _ _ a n c 0 0 tkOk.und
    go_enter Tryz.func128, Tryz.ntmps128
    go_wp2_with (at_builtin; refine push_slG tkOk rfl _ _ rfl (lay w []) _ _ [] (some ⟨b, o, none⟩) l.length cap l (lay_belowG (A := [_]) (B := [])) (owG_empty' _ (A := []) (B := []) (L := [])) (HV.out _) (fun h => by cases h) rfl rfl (by simpa using HN.out) ?_; intro v' d' hv')
    obtain ⟨va, vc, hve⟩ := hv'.form
    have H' := Lib.hid hv'
    subst hve
    clear hv'
    go_wp2_with fail
    go_ret
    exact ⟨_, d', rfl, rfl, H'.out⟩
set_option maxRecDepth 100000 in
theorem cln_Page (v : Value) (l : List PgW) (w : World) (hv : SlG pgR w v l) (hn : l.length ≤ 1000000000) :
    Calls Tryz.prog 127 #[v] w (ClnPost pgR w l) := by
  unfold ClnPost
  by_cases hz : l = []
  · subst hz
    obtain ⟨a, c, rfl⟩ := hv.form
    cases a with
    | none =>
      refine lay_start ?_
      have qT : ∀ (w : World) (a : Option Addr) (n c : Nat), (binOp .eql 22 (.slice a n c) (.slice none 0 0)).run Tryz.prog w = .ok (.bool a.isNone) w := fun w a n c => Lib.run_eql_slice_nil w _ _ a n c 0 0 pgOk.und
      go_enter Tryz.func127, Tryz.ntmps127
      go_wp2_with fail
      go_ret
      exact ⟨_, noExt _, rfl, (bw_noExt _).symm, OwG.nil _ _ _⟩
    | some a =>
      refine lay_start ?_
      have HV := Lib.hid (fun L => hv.lay L)
      have qT : ∀ (w : World) (a : Option Addr) (n c : Nat), (binOp .eql 22 (.slice a n c) (.slice none 0 0)).run Tryz.prog w = .ok (.bool a.isNone) w := fun w a n c => Lib.run_eql_slice_nil w _ _ a n c 0 0 pgOk.und
      go_enter Tryz.func127, Tryz.ntmps127
      go_wp2_with (at_builtin; refine push_slG pgOk rfl _ _ rfl (lay w []) _ _ _ (some a) 0 c [] (lay_belowG (A := [_]) (B := [])) (owG_empty' _ (A := []) (B := []) (L := [])) (HV.out _) (fun h => by cases h) rfl rfl (by simp) ?_; intro v' d' hv')
      obtain ⟨va, vc, hve⟩ := hv'.form
      have H' := Lib.hid hv'
      subst hve
      clear hv'
      go_wp2_with fail
      go_ret
      exact ⟨_, d', rfl, rfl, H'.out⟩
  · obtain ⟨b, o, cap, rfl, hc, hb, hr⟩ := hv.open (List.length_pos_iff.2 hz)
    have HV := Lib.hid (fun L => hv.lay L)
    have HN := Lib.hid hn
    clear hr hv hz
    refine lay_start ?_
    have qT : ∀ (w : World) (a : Option Addr) (n c : Nat), (binOp .eql 22 (.slice a n c) (.slice none 0 0)).run Tryz.prog w = .ok (.bool a.isNone) w := fun w a n c => Lib.run_eql_slice_nil w _ _ a n c 0 0 pgOk.und
    go_enter Tryz.func127, Tryz.ntmps127
    go_wp2_with (at_builtin; refine push_slG pgOk rfl _ _ rfl (lay w []) _ _ [] (some ⟨b, o, none⟩) l.length cap l (lay_belowG (A := [_]) (B := [])) (owG_empty' _ (A := []) (B := []) (L := [])) (HV.out _) (fun h => by cases h) rfl rfl (by simpa using HN.out) ?_; intro v' d' hv')
    obtain ⟨va, vc, hve⟩ := hv'.form
    have H' := Lib.hid hv'
    subst hve
    clear hv'
    go_wp2_with fail
    go_ret
    exact ⟨_, d', rfl, rfl, H'.out⟩
def ClnInt (w : World) (l : List Int) (e : Ending) (w' : World) : Prop := ∃ A n c d, e = .returned (.slice A n c) ∧ w' = bw w d ∧ LsP (fun b => w.heap.size ≤ b ∧ b < (bw w d).heap.size) (bw w d) (.slice A n c) l
theorem cln_Int {P : Nat → Prop} (v : Value) (l : List Int) (w : World) (h : LsP P w v l) (hl : l.length ≤ 1000000000) :
    Calls Tryz.prog 129 #[v] w (ClnInt w l) := by
  obtain ⟨hs, _⟩ := h
  by_cases hz : l = []
  · subst hz
    obtain ⟨a, c, rfl, -⟩ := hs
    cases a with
    | none =>
      refine (Tryz.slices_Clone_int_nil 0 c w).mono fun e w' ⟨h1, h2⟩ => ⟨none, 0, 0, noExt w, h1, by rw [bw_noExt]; exact h2, Sl.nil _, fun b o n c e hn => by cases e⟩
    | some a =>
      refine (Tryz.slices_Clone_int_zero a c w).mono fun e w' ⟨v', h1, h2, _, h4⟩ => ?_
      obtain ⟨d, rfl⟩ := bw_of h4
      have hO : Ow (bw w d) w.heap.size v' [] := ⟨h2, fun i hi => absurd hi (Nat.not_lt_zero i)⟩
      obtain ⟨a', c', rfl⟩ := hO.form
      exact ⟨_, _, _, d, h1, rfl, hO.sl, fun b o n c e hn => by cases e; exact absurd hn (Nat.lt_irrefl 0)⟩
  · obtain ⟨b, o, cap, rfl, hc, hw, _, hr⟩ := hs.open (List.length_pos_iff.2 hz)
    have := Tryz.slices_Clone_int b o l.length cap l w (Nat.le_refl _) (by omega) hr
    rw [List.take_length] at this
    refine this.mono fun e w' ⟨v', h1, h2, _, h4⟩ => ?_
    obtain ⟨d, rfl⟩ := bw_of h4
    have hO : Ow (bw w d) w.heap.size v' l := ⟨h2, hw⟩
    obtain ⟨g, c', rfl, h5, h6, _⟩ := hO.form1 (List.length_pos_iff.2 hz)
    exact ⟨_, _, _, d, h1, rfl, hO.sl, fun b o n c e _ => by cases e; exact ⟨h5, h6⟩⟩
end Go.Proofs.YthjfadfebhjhbaaGreat
/- Deep copies of pages: what holds while the copy is made. No function of the program. -/
namespace Go.Proofs.YthjfadfebhjhbaaGreat
open Go.RowKit

theorem owG_same {α : Type} {R : RecT α} {w w' : World} {base g n c : Nat} {l : List α} (h : OwG R w base (.slice (some ⟨g, 0, none⟩) n c) l) (hk : w'.heap[g]? = w.heap[g]?) : OwG R w' base (.slice (some ⟨g, 0, none⟩) n c) l := by
  refine ⟨⟨h.1.1, h.1.2.imp id ?_⟩, h.2⟩
  rintro ⟨g', cap, cur, e, h1, h2, h3⟩
  cases e
  exact ⟨g, c, cur, rfl, h1, hk.trans h2, h3⟩
theorem heap_set_other {w : World} {g i b : Nat} {v : Value} (h : b ≠ g) : (w.setCell ⟨g, i, none⟩ v).heap[b]? = w.heap[b]? := heap_setCell_other _ ⟨g, i, none⟩ b v h
structure CpO (P : Nat → Prop) (w0 : World) (g0 n cap : Nat) (l : List PgV) (i : Nat) (W : World) (ls : List PgW) : Prop where
  own : OwG pgR W w0.heap.size (.slice (some ⟨g0, 0, none⟩) n cap) ls
  len : ls.length = l.length
  sc : ∀ (j : Nat) x p, ls[j]? = some x → l[j]? = some p → x.y = p.y ∧ x.m = p.m ∧ x.d = p.d
  new : ∀ (j : Nat) x p, ls[j]? = some x → l[j]? = some p → j < i → TksD (fun b => w0.heap.size ≤ b ∧ b ≠ g0 ∧ b < W.heap.size) W (.slice x.ta x.tn x.tc) p.ts
  old : ∀ (j : Nat) x p, ls[j]? = some x → l[j]? = some p → i ≤ j → TksD P W (.slice x.ta x.tn x.tc) p.ts
structure CpI (P : Nat → Prop) (w0 : World) (g0 n cap : Nat) (l : List PgV) (i S : Nat) (v2 : Value) (p : PgV) (k : Nat) (W : World) (ls : List PgW) (lt : List TkW) : Prop where
  own : OwG pgR W w0.heap.size (.slice (some ⟨g0, 0, none⟩) n cap) ls
  len : ls.length = l.length
  sc : ∀ (j : Nat) x p, ls[j]? = some x → l[j]? = some p → x.y = p.y ∧ x.m = p.m ∧ x.d = p.d
  new : ∀ (j : Nat) x p, ls[j]? = some x → l[j]? = some p → j < i → TksD (fun b => w0.heap.size ≤ b ∧ b ≠ g0 ∧ b < S) W (.slice x.ta x.tn x.tc) p.ts
  old : ∀ (j : Nat) x p, ls[j]? = some x → l[j]? = some p → i < j → TksD P W (.slice x.ta x.tn x.tc) p.ts
  at_ : ∃ x, ls[i]? = some x ∧ v2 = .slice x.ta x.tn x.tc
  pg : l[i]? = some p
  sS : S ≤ W.heap.size
  gS : g0 < S
  row : OwG tkR W S v2 lt
  tlen : lt.length = p.ts.length
  tsc : ∀ (j : Nat) x t, lt[j]? = some x → p.ts[j]? = some t → x.s = t.s ∧ x.p = t.p ∧ x.q = t.q ∧ x.r = t.r
  tnew : ∀ (j : Nat) x t, lt[j]? = some x → p.ts[j]? = some t → j < k → LsP (fun b => S ≤ b ∧ b < W.heap.size ∧ ∀ g, v2.ownBlock = some g → b ≠ g) W (.slice x.ga x.gn x.gc) t.g ∧ LsP (fun b => S ≤ b ∧ b < W.heap.size ∧ ∀ g, v2.ownBlock = some g → b ≠ g) W (.slice x.da x.dn x.dc) t.d
  told : ∀ (j : Nat) x t, lt[j]? = some x → p.ts[j]? = some t → k ≤ j → LsP P W (.slice x.ga x.gn x.gc) t.g ∧ LsP P W (.slice x.da x.dn x.dc) t.d
theorem own_blk {g n c : Nat} : (Value.slice (some ⟨g, 0, none⟩) n c).ownBlock = some g := rfl
theorem CpI.done {P : Nat → Prop} {w0 : World} {g0 n cap : Nat} {l : List PgV} {i S : Nat} {v2 : Value} {p : PgV} {k : Nat} {W : World} {ls : List PgW} {lt : List TkW}
    (h : CpI P w0 g0 n cap l i S v2 p k W ls lt) (hk : p.ts.length ≤ k) (hS : w0.heap.size ≤ S) : CpO P w0 g0 n cap l (i + 1) W ls := by
  refine ⟨h.own, h.len, h.sc, fun j x q hx hq hj => ?_, fun j x q hx hq hj => h.old j x q hx hq (by omega)⟩
  by_cases e : j = i
  · subst e
    obtain ⟨x', hx', hv⟩ := h.at_
    rw [hx] at hx'
    cases hx'
    have hp := h.pg
    rw [hq] at hp
    cases hp
    rw [← hv]
    refine ⟨lt, h.row.sl tkOk, ?_, h.tlen, fun j2 y t hy ht => ?_⟩
    · intro b o n' c e hn
      have hform := h.row
      have hlen : 0 < lt.length := by
        obtain ⟨a, c', e'⟩ := hform.form
        rw [e] at e'
        cases e'
        exact hn
      obtain ⟨g, c', e', h1, h2, _⟩ := hform.form1 hlen
      rw [e] at e'
      cases e'
      have := h.gS
      exact ⟨by omega, by omega, h2⟩
    · have hj2 : j2 < k := by have := (List.getElem?_eq_some_iff.1 ht).1; omega
      obtain ⟨s1, s2, s3, s4⟩ := h.tsc j2 y t hy ht
      obtain ⟨t1, t2⟩ := h.tnew j2 y t hy ht hj2
      have := h.gS
      exact ⟨s1, t1.mono fun b hb => ⟨by omega, by omega, hb.2.1⟩, t2.mono fun b hb => ⟨by omega, by omega, hb.2.1⟩, s2, s3, s4⟩
  · exact (h.new j x q hx hq (by omega)).mono fun _ hb => ⟨hb.1, hb.2.1, Nat.lt_of_lt_of_le hb.2.2 h.sS⟩
theorem CpO.enter {P : Nat → Prop} {w0 : World} {g0 n cap : Nat} {l : List PgV} {i : Nat} {W : World} {ls : List PgW} (h : CpO P w0 g0 n cap l i W ls) (hP : ∀ b, P b → b < w0.heap.size) {x : PgW} {p : PgV}
    (hx : ls[i]? = some x) (hp : l[i]? = some p) {d : Ext} {a2 : Option Addr} {n2 c2 : Nat} {lt : List TkW} (hg : w0.heap.size ≤ g0) (hgW : g0 < W.heap.size)
    (hlt : SlG tkR W (.slice x.ta x.tn x.tc) lt) (hlen : lt.length = p.ts.length) (hD : ∀ (j : Nat) y t, lt[j]? = some y → p.ts[j]? = some t → TkD P W y t)
    (hrow : OwG tkR (bw W d) W.heap.size (.slice a2 n2 c2) lt) :
    CpI P w0 g0 n cap l i W.heap.size (.slice a2 n2 c2) p 0 ((bw W d).setCell ⟨g0, i * 4 + 3, none⟩ (.slice a2 n2 c2)) (ls.set i { x with ta := a2, tn := n2, tc := c2 }) lt := by
  have hil : i < ls.length := (List.getElem?_eq_some_iff.1 hx).1
  have hsz : ((bw W d).setCell ⟨g0, i * 4 + 3, none⟩ (.slice a2 n2 c2)).heap.size = (bw W d).heap.size := World.size_setCell _ _ _
  have hle := bw_le W d
  have hne : ∀ b, b ≠ g0 → b < W.heap.size → ((bw W d).setCell ⟨g0, i * 4 + 3, none⟩ (.slice a2 n2 c2)).heap[b]? = W.heap[b]? := fun b hb hlt => (heap_set_other hb).trans (bw_get W d b hlt)
  have hset : ∀ (j : Nat) y, (ls.set i { x with ta := a2, tn := n2, tc := c2 })[j]? = some y → j ≠ i → ls[j]? = some y := fun j y hy hj => by
    rw [List.getElem?_set_ne (by omega)] at hy; exact hy
  refine ⟨?_, by rw [List.length_set]; exact h.len, fun j y q hy hq => ?_, fun j y q hy hq hj => ?_, fun j y q hy hq hj => ?_, ⟨_, by rw [List.getElem?_set_self hil], rfl⟩, hp, by rw [hsz]; exact hle, hgW, ?_, hlen,
    fun j y t hy ht => ⟨(hD j y t hy ht).s, (hD j y t hy ht).p, (hD j y t hy ht).q, (hD j y t hy ht).r⟩, fun j y t hy ht hj => absurd hj (Nat.not_lt_zero j), fun j y t hy ht _ => ?_⟩
  · exact owG_store pgOk (h.own.bw d) (j := 3) hx (by decide) rfl (h.own.2 x (List.mem_of_getElem? hx))
  · by_cases e : j = i
    · subst e
      rw [List.getElem?_set_self hil] at hy
      cases hy
      exact h.sc j x q hx hq
    · exact h.sc j y q (hset j y hy e) hq
  · refine (h.new j y q (hset j y hy (by omega)) hq hj).keep (by rw [hsz]; exact hle) fun b hb hb2 => hne b hb.2.1 hb2
  · refine (h.old j y q (hset j y hy (by omega)) hq (by omega)).keep (by rw [hsz]; exact hle) fun b hb hb2 => hne b (by have := hP b hb; omega) hb2
  · by_cases hz : lt = []
    · subst hz
      rcases hrow.1.2 with ⟨e, hz⟩ | ⟨g, cap', cur, e, h1, h2, h3⟩
      · rw [e]; exact OwG.nil _ _ _
      · rw [e] at hrow ⊢
        exact owG_same hrow (heap_set_other (by omega))
    · obtain ⟨g, c', e, h1, _⟩ := hrow.form1 (List.length_pos_iff.2 hz)
      rw [e] at hrow ⊢
      exact owG_same hrow (heap_set_other (by omega))
  · have hk := hD j y t hy ht
    exact ⟨hk.g.keep (by rw [hsz]; exact hle) fun b hb hb2 => hne b (by have := hP b hb; omega) hb2, hk.d.keep (by rw [hsz]; exact hle) fun b hb hb2 => hne b (by have := hP b hb; omega) hb2⟩
theorem CpI.step {P : Nat → Prop} {w0 : World} {g0 n cap : Nat} {l : List PgV} {i S g1 n1 c1 : Nat} {p : PgV} {k : Nat} {W : World} {ls : List PgW} {lt : List TkW}
    (h : CpI P w0 g0 n cap l i S (.slice (some ⟨g1, 0, none⟩) n1 c1) p k W ls lt) (hP : ∀ b, P b → b < w0.heap.size) (hS : w0.heap.size ≤ S) {x : TkW} {t : TrkV} (hx : lt[k]? = some x) (ht : p.ts[k]? = some t) (hg1 : S ≤ g1) (hg1W : g1 < W.heap.size)
    {d : Ext} {A B : Option Addr} {nA cA nB cB : Nat}
    (hA : LsP (fun b => W.heap.size ≤ b ∧ b < (bw W d).heap.size) (bw W d) (.slice A nA cA) t.g) (hB : LsP (fun b => W.heap.size ≤ b ∧ b < (bw W d).heap.size) (bw W d) (.slice B nB cB) t.d) :
    CpI P w0 g0 n cap l i S (.slice (some ⟨g1, 0, none⟩) n1 c1) p (k + 1) (((bw W d).setCell ⟨g1, k * 6 + 1, none⟩ (.slice A nA cA)).setCell ⟨g1, k * 6 + 2, none⟩ (.slice B nB cB)) ls (lt.set k { x with ga := A, gn := nA, gc := cA, da := B, dn := nB, dc := cB }) := by
  have hkl : k < lt.length := (List.getElem?_eq_some_iff.1 hx).1
  obtain ⟨W2, hW2⟩ : ∃ W2, W2 = ((bw W d).setCell ⟨g1, k * 6 + 1, none⟩ (.slice A nA cA)).setCell ⟨g1, k * 6 + 2, none⟩ (.slice B nB cB) := ⟨_, rfl⟩
  have hsz : W2.heap.size = (bw W d).heap.size := by rw [hW2, World.size_setCell, World.size_setCell]
  have hle := bw_le W d
  have hfar : ∀ b, b ≠ g1 → W2.heap[b]? = (bw W d).heap[b]? := fun b hb => by rw [hW2]; exact (heap_set_other hb).trans (heap_set_other hb)
  have hne : ∀ b, b ≠ g1 → b < W.heap.size → W2.heap[b]? = W.heap[b]? := fun b hb hlt => (hfar b hb).trans (bw_get W d b hlt)
  have hgS := h.gS
  have hrow : OwG tkR W2 S (.slice (some ⟨g1, 0, none⟩) n1 c1) (lt.set k { x with ga := A, gn := nA, gc := cA, da := B, dn := nB, dc := cB }) := by
    have r1 := owG_store tkOk (h.row.bw d) (j := 1) (y := { x with ga := A, gn := nA, gc := cA }) (u := .slice A nA cA) hx (by decide) rfl (h.row.2 x (List.mem_of_getElem? hx))
    have r2 := owG_store tkOk r1 (i := k) (j := 2) (x := { x with ga := A, gn := nA, gc := cA }) (y := { x with ga := A, gn := nA, gc := cA, da := B, dn := nB, dc := cB }) (u := .slice B nB cB) (by rw [List.getElem?_set_self hkl]) (by decide) rfl (h.row.2 x (List.mem_of_getElem? hx))
    rw [List.set_set] at r2
    rw [hW2]; exact r2
  rw [← hW2]
  have hset : ∀ (j : Nat) y, (lt.set k { x with ga := A, gn := nA, gc := cA, da := B, dn := nB, dc := cB })[j]? = some y → j ≠ k → lt[j]? = some y := fun j y hy hj => by
    rw [List.getElem?_set_ne (by omega)] at hy; exact hy
  have fresh : ∀ {v : Value} {m : List Int}, LsP (fun b => W.heap.size ≤ b ∧ b < (bw W d).heap.size) (bw W d) v m → LsP (fun b => S ≤ b ∧ b < W2.heap.size ∧ ∀ g, (Value.slice (some ⟨g1, 0, none⟩) n1 c1).ownBlock = some g → b ≠ g) W2 v m := fun hv => by
    have h1 := hv.keep (w' := W2) (by rw [hsz]; exact Nat.le_refl _) fun b hb _ => hfar b (by omega)
    exact h1.mono fun b hb => ⟨by have := h.sS; omega, by rw [hsz]; exact hb.2, fun g e => by rw [own_blk] at e; cases e; omega⟩
  refine ⟨?_, h.len, h.sc, fun j y q hy hq hj => ?_, fun j y q hy hq hj => ?_, h.at_, h.pg, by rw [hsz]; have := h.sS; omega, hgS, hrow, by rw [List.length_set]; exact h.tlen, fun j y q hy hq => ?_, fun j y q hy hq hj => ?_, fun j y q hy hq hj => ?_⟩
  · exact owG_same (h.own.bw d) (hfar g0 (by omega))
  · exact (h.new j y q hy hq hj).keep (by rw [hsz]; exact hle) fun b hb hb2 => hne b (by omega) hb2
  · exact (h.old j y q hy hq hj).keep (by rw [hsz]; exact hle) fun b hb hb2 => hne b (by have := hP b hb; omega) hb2
  · by_cases e : j = k
    · subst e
      rw [List.getElem?_set_self hkl] at hy
      cases hy
      exact h.tsc j x q hx hq
    · exact h.tsc j y q (hset j y hy e) hq
  · by_cases e : j = k
    · subst e
      rw [List.getElem?_set_self hkl] at hy
      cases hy
      rw [ht] at hq
      cases hq
      exact ⟨fresh hA, fresh hB⟩
    · obtain ⟨t1, t2⟩ := h.tnew j y q (hset j y hy e) hq (by omega)
      have kp : ∀ {v : Value} {m : List Int}, LsP (fun b => S ≤ b ∧ b < W.heap.size ∧ ∀ g, (Value.slice (some ⟨g1, 0, none⟩) n1 c1).ownBlock = some g → b ≠ g) W v m → LsP (fun b => S ≤ b ∧ b < W2.heap.size ∧ ∀ g, (Value.slice (some ⟨g1, 0, none⟩) n1 c1).ownBlock = some g → b ≠ g) W2 v m := fun hv =>
        (hv.keep (w' := W2) (by rw [hsz]; exact hle) fun b hb hb2 => hne b (hb.2.2 g1 rfl) hb2).mono fun b hb => ⟨hb.1, by rw [hsz]; omega, hb.2.2⟩
      exact ⟨kp t1, kp t2⟩
  · obtain ⟨t1, t2⟩ := h.told j y q (hset j y hy (by omega)) hq (by omega)
    exact ⟨t1.keep (by rw [hsz]; exact hle) fun b hb hb2 => hne b (by have := hP b hb; omega) hb2, t2.keep (by rw [hsz]; exact hle) fun b hb hb2 => hne b (by have := hP b hb; omega) hb2⟩
theorem CpO.bw {P : Nat → Prop} {w0 : World} {g0 n cap : Nat} {l : List PgV} {i : Nat} {W : World} {ls : List PgW} (h : CpO P w0 g0 n cap l i W ls) (d : Ext) : CpO P w0 g0 n cap l i (bw W d) ls :=
  ⟨h.own.bw d, h.len, h.sc, fun j x p hx hp hj => ((h.new j x p hx hp hj).keep (bw_le W d) fun b _ hb => bw_get W d b hb).mono fun _ hb => ⟨hb.1, hb.2.1, Nat.lt_of_lt_of_le hb.2.2 (bw_le W d)⟩,
    fun j x p hx hp hj => (h.old j x p hx hp hj).keep (bw_le W d) fun b _ hb => bw_get W d b hb⟩
theorem CpI.bw {P : Nat → Prop} {w0 : World} {g0 n cap : Nat} {l : List PgV} {i S : Nat} {v2 : Value} {p : PgV} {k : Nat} {W : World} {ls : List PgW} {lt : List TkW} (h : CpI P w0 g0 n cap l i S v2 p k W ls lt) (d : Ext) : CpI P w0 g0 n cap l i S v2 p k (bw W d) ls lt :=
  ⟨h.own.bw d, h.len, h.sc, fun j x p hx hp hj => (h.new j x p hx hp hj).keep (bw_le W d) fun b _ hb => bw_get W d b hb, fun j x p hx hp hj => (h.old j x p hx hp hj).keep (bw_le W d) fun b _ hb => bw_get W d b hb, h.at_, h.pg,
    Nat.le_trans h.sS (bw_le W d), h.gS, h.row.bw d, h.tlen, h.tsc, fun j x t hx ht hj => ⟨((h.tnew j x t hx ht hj).1.keep (bw_le W d) fun b _ hb => bw_get W d b hb).mono fun _ hb => ⟨hb.1, Nat.lt_of_lt_of_le hb.2.1 (bw_le W d), hb.2.2⟩,
      ((h.tnew j x t hx ht hj).2.keep (bw_le W d) fun b _ hb => bw_get W d b hb).mono fun _ hb => ⟨hb.1, Nat.lt_of_lt_of_le hb.2.1 (bw_le W d), hb.2.2⟩⟩,
    fun j x t hx ht hj => ⟨(h.told j x t hx ht hj).1.keep (bw_le W d) fun b _ hb => bw_get W d b hb, (h.told j x t hx ht hj).2.keep (bw_le W d) fun b _ hb => bw_get W d b hb⟩⟩
theorem LsP.bw {P : Nat → Prop} {w : World} {v : Value} {l : List Int} (h : LsP P w v l) (d : Ext) : LsP P (bw w d) v l := h.keep (bw_le w d) fun b _ hb => bw_get w d b hb
theorem CpO.done {P : Nat → Prop} {w0 : World} {g0 n cap : Nat} {l : List PgV} {i : Nat} {W : World} {ls : List PgW} (h : CpO P w0 g0 n cap l i W ls) (hi : l.length ≤ i) (hg : w0.heap.size ≤ g0) : PgsD (fun b => w0.heap.size ≤ b) W (.slice (some ⟨g0, 0, none⟩) n cap) l := by
  refine ⟨ls, h.own.sl pgOk, fun b o n c e hn => by cases e; exact hg, h.len, fun j x p hx hp => ?_⟩
  obtain ⟨s1, s2, s3⟩ := h.sc j x p hx hp
  exact ⟨s1, s2, s3, (h.new j x p hx hp (by have := (List.getElem?_eq_some_iff.1 hp).1; omega)).mono fun _ hb => hb.1⟩
end Go.Proofs.YthjfadfebhjhbaaGreat

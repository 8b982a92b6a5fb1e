/- Contracts and plain laws, several texts in one: Re6; Re7; Re8; Re9; Re10 -/
import Derived.Test.YtmmfkleplbofgaaGreatDoorProg
import Derived.WalkKit
import Derived.WalkSpells
import Derived.WalkLawsBesides
import Derived.Lib.Hide
import Derived.BigQuiet
import Derived.Deep.RegionWith
import Derived.Test.YtmmfkleplbofgaaGreatDoorBAA
import Derived.Test.YtmmfkleplbofgaaGreatDoorBAB
import Derived.Test.YtmmfkleplbofgaaGreatDoorBAG
import Derived.Test.YtmmfkleplbofgaaGreatDoorBAN
/- The reference's Repairs. -/
namespace Go.Proofs.YtmmfkleplbofgaaGreatDoor
open Go.RowKit

/-- A slice that is nil where it is empty. -/
def OutS (w : World) (v : Value) (l : List Int) : Prop := (l = [] ∧ v = .slice none 0 0) ∨ (0 < l.length ∧ Sl w v l)
theorem OutS.sl {w : World} {v : Value} {l : List Int} (h : OutS w v l) : Sl w v l := by
  rcases h with ⟨rfl, rfl⟩ | ⟨_, h⟩
  · exact Sl.nil w
  · exact h
theorem OutS.ext {w w' : World} {v : Value} {l : List Int} (h : OutS w v l) (hb : Below w.heap.size w w') : OutS w' v l := h.imp id fun ⟨h1, h2⟩ => ⟨h1, h2.ext hb⟩
def OutR (w : World) (l : List Int) (e : Ending) (w' : World) : Prop := ∃ v d, e = .returned v ∧ w' = bw w d ∧ OutS (bw w d) v l
theorem putI_pos (x : Int) (l : List Int) : 0 < (putI x l).length := List.length_pos_iff.2 (by
  intro h
  have : x ∈ putI x l := mem_putI.2 (.inl rfl)
  rw [h] at this; exact absurd this (List.not_mem_nil))
theorem putI_len (x : Int) : ∀ l : List Int, (putI x l).length ≤ l.length + 1
  | [] => by simp [putI]
  | y :: l => by
    unfold putI
    split
    · have := putI_len x l; simp only [List.length_cons]; omega
    · split <;> simp
theorem re_put_any (v : Value) (l : List Int) (x : Int) (w : World) (hs : OutS w v l) (hn : l.length ≤ 100000000) (hx : (Lit.int .i64 x).wf = true) :
    Calls Tryz.prog 89 #[v, .int .i64 x] w (OutR w (putI x l)) := by
  rcases hs with ⟨rfl, rfl⟩ | ⟨h1, h2⟩
  · exact (re_put_nil x w hx).mono fun e w' ⟨v', d, h1, h2, h3⟩ => ⟨v', d, h1, h2, .inr ⟨Nat.one_pos, h3⟩⟩
  · exact (re_put v l x w h2 h1 hn hx).mono fun e w' ⟨v', d, h3, h4, h5⟩ => ⟨v', d, h3, h4, .inr ⟨putI_pos x l, h5⟩⟩
def nearK (at_ : Nat) : Nat := at_ - nearLo at_
/-- Do the entries around an index leave no bad centre, with another value there? -/
def goodB (wr : Bool) (l : List Int) (bend : Int) (at_ : Nat) (x : Int) : Bool := (badL wr ((nearL l at_).set (nearK at_) x) bend 1 ((nearL l at_).length - 1)).isEmpty
def addP (wr : Bool) (l : List Int) (bend : Int) (at_ : Nat) (out : List Int) (t : Int) : List Int :=
  if (permB wr (frm wr t) && goodB wr l bend at_ (frm wr t)) = true then putI (frm wr t) out else out
/-- What the reference's Repairs returns. -/
def refL (wr : Bool) (l : List Int) (bend : Int) (at_ : Nat) : List Int :=
  if (badL wr l bend 1 (l.length - 1)).any (farB at_) = true then [] else (triesL wr l bend at_).foldl (addP wr l bend at_) []
theorem addP_len (wr : Bool) (l : List Int) (bend : Int) (at_ : Nat) (out : List Int) (t : Int) : (addP wr l bend at_ out t).length ≤ out.length + 1 := by
  unfold addP
  split
  · exact putI_len _ _
  · omega
theorem fold_take (f : List Int → Int → List Int) (ts : List Int) (k : Nat) (h : k < ts.length) : (ts.take (k + 1)).foldl f [] = f ((ts.take k).foldl f []) (nth ts k) := by
  rw [List.take_succ_eq_append_getElem h, List.foldl_append]
  have e : nth ts k = ts[k] := by unfold nth; simp [List.getD, h]
  rw [e]; rfl
theorem fold_len {f : List Int → Int → List Int} (hf : ∀ o t, (f o t).length ≤ o.length + 1) (ts : List Int) : ∀ k, k ≤ ts.length → ((ts.take k).foldl f []).length ≤ k
  | 0, _ => by simp
  | k + 1, h => by
    rw [fold_take f ts k (by omega)]
    have := fold_len hf ts k (by omega)
    have := hf ((ts.take k).foldl f []) (nth ts k)
    omega
theorem near_len {l : List Int} {at_ : Nat} (h3 : 3 ≤ l.length) (ha : at_ < l.length) : 3 ≤ (nearL l at_).length ∧ (nearL l at_).length ≤ 5 ∧ nearK at_ < (nearL l at_).length := by
  unfold nearL nearK nearLo nearHi
  rw [List.length_take, List.length_drop]
  omega
theorem near_nth {l : List Int} {at_ i : Nat} (h : i < (nearL l at_).length) : nth (nearL l at_) i = nth l (nearLo at_ + i) ∧ nearLo at_ + i < l.length := by
  unfold nearL at h ⊢
  rw [List.length_take, List.length_drop] at h
  exact ⟨nth_cut (by omega), by omega⟩
theorem near_giv {wr : Bool} {l : List Int} {at_ : Nat} (hg : Giv wr l) (ha : at_ < l.length) : Giv wr (nearL l at_) := by
  have h := near_len hg.n3 ha
  refine ⟨h.1, by omega, fun i hi => ?_⟩
  have := near_nth hi
  rw [this.1]; exact hg.perm _ this.2
theorem any_take {l : List Int} {p : Int → Bool} {k : Nat} (hk : k < l.length) (h : (l.take k).any p = false) (hp : p (nth l k) = false) : (l.take (k + 1)).any p = false := by
  rw [List.take_succ_eq_append_getElem hk, List.any_append, h]
  have e : nth l k = l[k] := by unfold nth; simp [List.getD, hk]
  rw [e] at hp
  simp [hp]
theorem any_yes {l : List Int} {p : Int → Bool} {k : Nat} (hk : k < l.length) (hp : p (nth l k) = true) : l.any p = true := List.any_eq_true.2 ⟨_, nth_mem hk, hp⟩
set_option maxHeartbeats 1000000 in
set_option maxRecDepth 100000 in
theorem re_Repairs (v : Value) (l : List Int) (wr : Bool) (bend : Int) (at_ : Nat) (w : World) (hs : Sl w v l) (hg : Giv wr l) (b0 : 0 ≤ bend) (b1 : bend ≤ 1000) (ha : at_ < l.length) :
    Calls Tryz.prog 58 #[v, .int .i64 bend, .int .i64 (at_ : Int), .bool wr] w (OutR w (refL wr l bend at_)) := by
  have hn := hg.n1000
  have hn3 := hg.n3
  have HCe := Lib.hid (fun W (h : Sl W v l) => re_Centres v l wr bend W h hg b0 b1)
  have HNe := Lib.hid (fun W (h : Sl W v l) => re_near v l at_ W h ha hn)
  have HTr := Lib.hid (fun W (h : Sl W v l) => re_tries v l wr bend at_ W h hg b0 b1 ha)
  have HPg := Lib.hid (near_giv hg ha)
  have HPl := Lib.hid (near_len hn3 ha)
  have HS := Lib.hid hs
  obtain ⟨b, o, cap, rfl, -⟩ := hs.open (by omega)
  have hR : refL wr l bend at_ = if (badL wr l bend 1 (l.length - 1)).any (farB at_) = true then [] else (triesL wr l bend at_).foldl (addP wr l bend at_) [] := rfl
  obtain ⟨RL, hRL⟩ : ∃ RL, refL wr l bend at_ = RL := ⟨_, rfl⟩
  rw [hRL] at hR ⊢
  have HRe := Lib.hid hR
  have hbl := badL_len (wr := wr) (l := l) (bend := bend) (lo := 1) (hi := l.length - 1)
  have htl : (triesL wr l bend at_).length ≤ 10000 := by
    have := tryL_len (tryK wr l at_) (fun d => tryK_len wr l at_ d) (-(bend + 2)) (cntM bend)
    unfold triesL; unfold cntM at *; omega
  obtain ⟨m, hm⟩ : ∃ m, l.length = m := ⟨_, rfl⟩
  rw [hm] at HCe HNe HTr HS HRe hbl hn hn3 ha ⊢
  have w1 : IntKind.i64.wrap ((at_ : Int) - 1) = (at_ : Int) - 1 := IntWalk.i64_in _ (by omega)
  have w2 : IntKind.i64.wrap ((at_ : Int) + 1) = (at_ : Int) + 1 := IntWalk.i64_in _ (by omega)
  have hfold := fold_take (addP wr l bend at_) (triesL wr l bend at_)
  have hfl := fold_len (f := addP wr l bend at_) (fun o t => addP_len wr l bend at_ o t) (triesL wr l bend at_)
  have HFo := Lib.hid hfold
  have HFl := Lib.hid hfl
  clear hR hRL hs hg hm hfold hfl
  generalize badL wr l bend 1 (m - 1) = C at *
  generalize triesL wr l bend at_ = T at *
  refine lay_start ?_
  go_enter Tryz.func58, Tryz.ntmps58
  go_wp2_with fail
  refine (HCe.out _ (HS.out.lay _)).mono ?_
  rintro e w' ⟨vc, d1, rfl, rfl, hcv⟩
  obtain ⟨ca, cc, rfl⟩ := hcv.form
  rw [lay_bw] at hcv ⊢
  have HCv := Lib.hid hcv
  clear hcv
  go_wp2_with fail
  go_loop [10] (fun v10 => ∃ k : Nat, k ≤ C.length ∧ v10 = .int .i64 (k : Int) ∧ (C.take k).any (farB at_) = false) (fun v10 => C.length - (intOf v10).toNat)
  case atStart => exact ⟨0, Nat.zero_le _, rfl, rfl⟩
  case round =>
    obtain ⟨k, hk, rfl, hany⟩ := hrel
    have HAny := Lib.hid hany
    clear hany
    by_cases hlt : k < C.length
    · obtain ⟨gc, cc', he, -⟩ := HCv.out.form1 (by omega)
      simp only [Value.slice.injEq] at he
      obtain ⟨rfl, -, -⟩ := he
      have k0 := HCv.out.cell (i := k) hlt
      have x1 : (k : Int) < (C.length : Int) := by omega
      have HT := Lib.hid (any_take (p := farB at_) hlt HAny.out)
      have HY := Lib.hid (any_yes (p := farB at_) hlt)
      generalize nth C k = y at *
      by_cases h1 : y < (at_ : Int) - 1
      · have t1 : decide (y < (at_ : Int) - 1) = true := decide_eq_true h1
        have HE : Hid (RL = []) := Lib.hid (by rw [HRe.out, if_pos (HY.out (by unfold farB; exact decide_eq_true (.inl h1)))])
        go_wp2_with fail
        go_ret
        exact ⟨_, d1, rfl, rfl, .inl ⟨HE.out, rfl⟩⟩
      · have t1 : decide (y < (at_ : Int) - 1) = false := decide_eq_false h1
        by_cases h2 : (at_ : Int) + 1 < y
        · have t2 : decide ((at_ : Int) + 1 < y) = true := decide_eq_true h2
          have HE : Hid (RL = []) := Lib.hid (by rw [HRe.out, if_pos (HY.out (by unfold farB; exact decide_eq_true (.inr h2)))])
          go_wp2_with fail
          go_ret
          exact ⟨_, d1, rfl, rfl, .inl ⟨HE.out, rfl⟩⟩
        · have t2 : decide ((at_ : Int) + 1 < y) = false := decide_eq_false h2
          have HN := Lib.hid (HT.out (by unfold farB; simp; omega))
          go_wp2_with fail
          go_round
          case rel => exact ⟨k + 1, hlt, by go_num, HN.out⟩
          case measure => simp [intOf]; omega
    · obtain rfl : k = C.length := by omega
      have HE : Hid (RL = T.foldl (addP wr l bend at_) []) := Lib.hid (by
        have := HAny.out
        rw [List.take_length] at this
        rw [HRe.out, if_neg (by rw [this]; decide)])
      have x1 : (C.length : Int) ≤ (C.length : Int) := Int.le_refl _
      go_wp2_with fail
      refine (HNe.out _ (HS.out.lay _)).mono ?_
      rintro e w' ⟨vp, d2, rfl, rfl, hp⟩
      rw [lay_bw] at hp ⊢
      have HP := Lib.hid hp
      clear hp
      go_wp2_with fail
      refine (HTr.out _ (HS.out.lay _)).mono ?_
      rintro e w' ⟨vt, d3, rfl, rfl, ht⟩
      obtain ⟨ta, tc, rfl⟩ := ht.form
      rw [lay_bw] at ht ⊢
      have HT := Lib.hid ht
      clear ht
      go_wp2_with fail
      rw [show at_ - nearLo at_ = nearK at_ from rfl]
      have hgo : ∀ x, goodB wr l bend at_ x = (badL wr ((nearL l at_).set (nearK at_) x) bend 1 ((nearL l at_).length - 1)).isEmpty := fun x => rfl
      have HGo := Lib.hid hgo
      have hkk := HPl.out
      clear hgo HAny HRe HCe HNe HTr
      generalize nearL l at_ = PL at *
      generalize nearK at_ = kk at *
      go_loopw [14, 15] (fun v14 v15 wr' => ∃ (j : Nat) (dd : Ext), j ≤ T.length ∧ v15 = .int .i64 (j : Int) ∧ wr' = lay w [.inr dd, .inr d3, .inr d2, .inr d1] ∧ OutS (lay w [.inr dd, .inr d3, .inr d2, .inr d1]) v14 ((T.take j).foldl (addP wr l bend at_) [])) (fun _ v15 _ => T.length - (intOf v15).toNat)
      case atStart => exact ⟨0, noExt _, Nat.zero_le _, rfl, (bw_noExt _).symm, .inl ⟨rfl, rfl⟩⟩
      case round =>
        obtain ⟨j, dd, hj, rfl, rfl, hO⟩ := hrel
        by_cases hlt2 : j < T.length
        · obtain ⟨gt, tc', he, -⟩ := HT.out.form1 (by omega)
          simp only [Value.slice.injEq] at he
          obtain ⟨rfl, -, -⟩ := he
          have k0 : (lay w [.inr dd, .inr d3, .inr d2, .inr d1]).cell? ⟨gt, j, none⟩ = some (.int .i64 (nth T j)) := (ow_on (A := [.inr dd]) HT.out).cell (i := j) hlt2
          have hfj := HFo.out j hlt2
          have hfl := HFl.out j hj
          have x2 : (j : Int) < (T.length : Int) := by omega
          have HO := Lib.hid hO
          have HFj := Lib.hid hfj
          clear hO hfj
          generalize (T.take j).foldl (addP wr l bend at_) [] = R at *
          generalize nth T j = t at *
          obtain ⟨x, hx⟩ : ∃ x, frm wr t = x := ⟨_, rfl⟩
          have had : addP wr l bend at_ R t = if (permB wr x && goodB wr l bend at_ x) = true then putI x R else R := by unfold addP; rw [hx]
          have HAd := Lib.hid had
          have HPm := Lib.hid (fun W => re_permitted wr x W)
          have HMd := Lib.hid (fun W => re_mod t W)
          clear had
          cases wr
          · have hx' : x = t := hx.symm
            subst hx'
            cases hP : permB false x
            · have HST : Hid ((T.take (j + 1)).foldl (addP false l bend at_) [] = R) := Lib.hid (by rw [HFj.out, HAd.out, hP, Bool.false_and]; rfl)
              rw [hP] at HPm
              go_wp2_with (first | (go_at_call 87; refine (HMd.out _).mono ?_; rintro e w1 ⟨rfl, rfl⟩) | (go_at_call 83; refine (HPm.out _).mono ?_; rintro e w1 ⟨rfl, rfl⟩))
              go_roundw
              case rel => exact ⟨j + 1, dd, hlt2, by go_num, rfl, by rw [HST.out]; exact HO.out⟩
              case measure => simp [intOf]; omega
            · have hpb := perm_bd hP
              have hwf : (Lit.int .i64 x).wf = true := lit_bd (by omega)
              have HW := Lib.hid (fun W (h : Sl W vp PL) => re_with vp PL kk x W h hkk.2.2 (by omega) hwf)
              have hsl : (PL.set kk x).length = PL.length := List.length_set ..
              have HCn := Lib.hid (fun W vw (h : Sl W vw (PL.set kk x)) => re_Centres vw (PL.set kk x) false bend W h (giv_set HPg.out kk x hP) b0 b1)
              rw [hsl] at HCn
              have HGd := Lib.hid (HGo.out x)
              rw [hP] at HPm
              have HAd2 := Lib.hid (show addP false l bend at_ R x = if (goodB false l bend at_ x) = true then putI x R else R by rw [HAd.out, hP, Bool.true_and])
              clear hP hpb hsl
              generalize badL false (PL.set kk x) bend 1 (PL.length - 1) = BL at *
              by_cases hBL : BL = []
              · subst hBL
                have HST : Hid ((T.take (j + 1)).foldl (addP false l bend at_) [] = putI x R) := Lib.hid (by rw [HFj.out, HAd2.out, HGd.out]; rfl)
                go_wp2_with (first | (go_at_call 87; refine (HMd.out _).mono ?_; rintro e w1 ⟨rfl, rfl⟩) | (go_at_call 83; refine (HPm.out _).mono ?_; rintro e w1 ⟨rfl, rfl⟩))
                refine (HW.out _ (sl_on (A := [.inr dd, .inr d3]) (B := [.inr d2, .inr d1]) HP.out.sl)).mono ?_
                rintro e w' ⟨vw, e1, rfl, rfl, hvw⟩
                have HCn' := Lib.hid (HCn.out _ vw hvw.sl)
                rw [lay_bw] at HCn' ⊢
                clear hvw
                go_wp2_with fail
                refine HCn'.out.mono ?_
                rintro e w' ⟨vb, e2, rfl, rfl, hvb⟩
                obtain ⟨ba, bc, rfl⟩ := hvb.form
                rw [lay_bw]
                clear hvb HCn'
                have HPu := Lib.hid (re_put_any u14 R x (lay w [.inr e2, .inr e1, .inr dd, .inr d3, .inr d2, .inr d1]) (HO.out.ext (lay_below (A := [.inr e2, .inr e1]) (B := [.inr dd, .inr d3, .inr d2, .inr d1]))) (by omega) hwf)
                go_wp2_with fail
                refine HPu.out.mono ?_
                rintro e w' ⟨v5, e3, rfl, rfl, h5⟩
                rw [lay_bw] at h5 ⊢
                have H5 := Lib.hid h5
                clear h5 HPu
                go_wp2_with fail
                go_roundw
                case rel => exact ⟨j + 1, _, hlt2, by go_num, Classical.choose_spec (lay_fold w [_, _, _, _] [.inr d3, .inr d2, .inr d1]), by rw [← Classical.choose_spec (lay_fold w [_, _, _, _] [.inr d3, .inr d2, .inr d1]), HST.out]; exact H5.out⟩
                case measure => simp [intOf]; omega
              · have HST : Hid ((T.take (j + 1)).foldl (addP false l bend at_) [] = R) := Lib.hid (by rw [HFj.out, HAd2.out, HGd.out, if_neg (by simpa using hBL)])
                have hz : ((BL.length : Int) == 0) = false := beq_eq_false_iff_ne.2 (fun h => hBL (List.eq_nil_of_length_eq_zero (by omega)))
                clear hBL
                go_wp2_with (first | (go_at_call 87; refine (HMd.out _).mono ?_; rintro e w1 ⟨rfl, rfl⟩) | (go_at_call 83; refine (HPm.out _).mono ?_; rintro e w1 ⟨rfl, rfl⟩))
                refine (HW.out _ (sl_on (A := [.inr dd, .inr d3]) (B := [.inr d2, .inr d1]) HP.out.sl)).mono ?_
                rintro e w' ⟨vw, e1, rfl, rfl, hvw⟩
                have HCn' := Lib.hid (HCn.out _ vw hvw.sl)
                rw [lay_bw] at HCn' ⊢
                clear hvw
                go_wp2_with fail
                refine HCn'.out.mono ?_
                rintro e w' ⟨vb, e2, rfl, rfl, hvb⟩
                obtain ⟨ba, bc, rfl⟩ := hvb.form
                rw [lay_bw]
                clear hvb HCn'
                generalize BL.length = bq at *
                go_wp2_with fail
                go_roundw
                case rel => exact ⟨j + 1, _, hlt2, by go_num, Classical.choose_spec (lay_fold w [_, _, _] [.inr d3, .inr d2, .inr d1]), by rw [← Classical.choose_spec (lay_fold w [_, _, _] [.inr d3, .inr d2, .inr d1]), HST.out]; exact HO.out.ext (lay_below (A := [.inr e2, .inr e1]) (B := [.inr dd, .inr d3, .inr d2, .inr d1]))⟩
                case measure => simp [intOf]; omega
          · have hx' : frm true t = x := hx
            rw [hx'] at HMd
            clear hx hx'
            cases hP : permB true x
            · have HST : Hid ((T.take (j + 1)).foldl (addP true l bend at_) [] = R) := Lib.hid (by rw [HFj.out, HAd.out, hP, Bool.false_and]; rfl)
              rw [hP] at HPm
              go_wp2_with (first | (go_at_call 87; refine (HMd.out _).mono ?_; rintro e w1 ⟨rfl, rfl⟩) | (go_at_call 83; refine (HPm.out _).mono ?_; rintro e w1 ⟨rfl, rfl⟩))
              go_roundw
              case rel => exact ⟨j + 1, dd, hlt2, by go_num, rfl, by rw [HST.out]; exact HO.out⟩
              case measure => simp [intOf]; omega
            · have hpb := perm_bd hP
              have hwf : (Lit.int .i64 x).wf = true := lit_bd (by omega)
              have HW := Lib.hid (fun W (h : Sl W vp PL) => re_with vp PL kk x W h hkk.2.2 (by omega) hwf)
              have hsl : (PL.set kk x).length = PL.length := List.length_set ..
              have HCn := Lib.hid (fun W vw (h : Sl W vw (PL.set kk x)) => re_Centres vw (PL.set kk x) true bend W h (giv_set HPg.out kk x hP) b0 b1)
              rw [hsl] at HCn
              have HGd := Lib.hid (HGo.out x)
              rw [hP] at HPm
              have HAd2 := Lib.hid (show addP true l bend at_ R t = if (goodB true l bend at_ x) = true then putI x R else R by rw [HAd.out, hP, Bool.true_and])
              clear hP hpb hsl
              generalize badL true (PL.set kk x) bend 1 (PL.length - 1) = BL at *
              by_cases hBL : BL = []
              · subst hBL
                have HST : Hid ((T.take (j + 1)).foldl (addP true l bend at_) [] = putI x R) := Lib.hid (by rw [HFj.out, HAd2.out, HGd.out]; rfl)
                go_wp2_with (first | (go_at_call 87; refine (HMd.out _).mono ?_; rintro e w1 ⟨rfl, rfl⟩) | (go_at_call 83; refine (HPm.out _).mono ?_; rintro e w1 ⟨rfl, rfl⟩))
                refine (HW.out _ (sl_on (A := [.inr dd, .inr d3]) (B := [.inr d2, .inr d1]) HP.out.sl)).mono ?_
                rintro e w' ⟨vw, e1, rfl, rfl, hvw⟩
                have HCn' := Lib.hid (HCn.out _ vw hvw.sl)
                rw [lay_bw] at HCn' ⊢
                clear hvw
                go_wp2_with fail
                refine HCn'.out.mono ?_
                rintro e w' ⟨vb, e2, rfl, rfl, hvb⟩
                obtain ⟨ba, bc, rfl⟩ := hvb.form
                rw [lay_bw]
                clear hvb HCn'
                have HPu := Lib.hid (re_put_any u14 R x (lay w [.inr e2, .inr e1, .inr dd, .inr d3, .inr d2, .inr d1]) (HO.out.ext (lay_below (A := [.inr e2, .inr e1]) (B := [.inr dd, .inr d3, .inr d2, .inr d1]))) (by omega) hwf)
                go_wp2_with fail
                refine HPu.out.mono ?_
                rintro e w' ⟨v5, e3, rfl, rfl, h5⟩
                rw [lay_bw] at h5 ⊢
                have H5 := Lib.hid h5
                clear h5 HPu
                go_wp2_with fail
                go_roundw
                case rel => exact ⟨j + 1, _, hlt2, by go_num, Classical.choose_spec (lay_fold w [_, _, _, _] [.inr d3, .inr d2, .inr d1]), by rw [← Classical.choose_spec (lay_fold w [_, _, _, _] [.inr d3, .inr d2, .inr d1]), HST.out]; exact H5.out⟩
                case measure => simp [intOf]; omega
              · have HST : Hid ((T.take (j + 1)).foldl (addP true l bend at_) [] = R) := Lib.hid (by rw [HFj.out, HAd2.out, HGd.out, if_neg (by simpa using hBL)])
                have hz : ((BL.length : Int) == 0) = false := beq_eq_false_iff_ne.2 (fun h => hBL (List.eq_nil_of_length_eq_zero (by omega)))
                clear hBL
                go_wp2_with (first | (go_at_call 87; refine (HMd.out _).mono ?_; rintro e w1 ⟨rfl, rfl⟩) | (go_at_call 83; refine (HPm.out _).mono ?_; rintro e w1 ⟨rfl, rfl⟩))
                refine (HW.out _ (sl_on (A := [.inr dd, .inr d3]) (B := [.inr d2, .inr d1]) HP.out.sl)).mono ?_
                rintro e w' ⟨vw, e1, rfl, rfl, hvw⟩
                have HCn' := Lib.hid (HCn.out _ vw hvw.sl)
                rw [lay_bw] at HCn' ⊢
                clear hvw
                go_wp2_with fail
                refine HCn'.out.mono ?_
                rintro e w' ⟨vb, e2, rfl, rfl, hvb⟩
                obtain ⟨ba, bc, rfl⟩ := hvb.form
                rw [lay_bw]
                clear hvb HCn'
                generalize BL.length = bq at *
                go_wp2_with fail
                go_roundw
                case rel => exact ⟨j + 1, _, hlt2, by go_num, Classical.choose_spec (lay_fold w [_, _, _] [.inr d3, .inr d2, .inr d1]), by rw [← Classical.choose_spec (lay_fold w [_, _, _] [.inr d3, .inr d2, .inr d1]), HST.out]; exact HO.out.ext (lay_below (A := [.inr e2, .inr e1]) (B := [.inr dd, .inr d3, .inr d2, .inr d1]))⟩
                case measure => simp [intOf]; omega
        · obtain rfl : j = T.length := by omega
          rw [List.take_length] at hO
          have HO := Lib.hid hO
          clear hO
          go_wp2
          go_ret
          obtain ⟨z, hz⟩ := lay_ex w [.inr dd, .inr d3, .inr d2, .inr d1]
          exact ⟨_, z, rfl, hz, by rw [← hz, HE.out]; exact HO.out⟩
end Go.Proofs.YtmmfkleplbofgaaGreatDoor
/- The reference's Repairs are audit's: plain law. -/
namespace Go.Proofs.YtmmfkleplbofgaaGreatDoor
open Go.RowKit

theorem badN_of_L {wr : Bool} {l : List Int} {bend : Int} {lo hi : Nat} : (badL wr l bend lo hi).isEmpty = true ↔ ∀ i, lo ≤ i → i < hi → -(bend + 2) ≤ sec wr l i ∧ sec wr l i ≤ bend + 2 := by
  unfold badL
  rw [List.isEmpty_iff, List.map_eq_nil_iff, badN_nil]
  exact ⟨fun h i h1 h2 => badB_f.1 (h i h1 h2), fun h i h1 h2 => badB_f.2 (h i h1 h2)⟩
theorem fit_iff {wr : Bool} {l : List Int} {bend : Int} {at_ : Nat} {x : Int} : fitB wr l bend at_ x = true ↔ ∀ i, loA at_ ≤ i → i < hiA at_ l.length → -(bend + 2) ≤ sec wr (l.set at_ x) i ∧ sec wr (l.set at_ x) i ≤ bend + 2 := badN_of_L
theorem near_set {l : List Int} {at_ i : Nat} {x : Int} (ha : at_ < l.length) (hi : i < (nearL l at_).length) : nth ((nearL l at_).set (nearK at_) x) i = nth (l.set at_ x) (nearLo at_ + i) := by
  by_cases hk : nearK at_ < (nearL l at_).length
  · rw [nth_set _ _ _ hk, nth_set _ _ _ ha]
    have h := near_nth hi
    by_cases e : i = nearK at_
    · rw [if_pos e, if_pos (by subst e; unfold nearK nearLo; omega)]
    · rw [if_neg e, if_neg (by unfold nearK nearLo at *; omega), h.1]
  · unfold nearK nearL nearLo nearHi at hk
    rw [List.length_take, List.length_drop] at hk
    omega
theorem good_fit {wr : Bool} {l : List Int} {bend : Int} {at_ : Nat} {x : Int} (h3 : 3 ≤ l.length) (ha : at_ < l.length) : goodB wr l bend at_ x = true ↔ fitB wr l bend at_ x = true := by
  rw [fit_iff]
  unfold goodB
  rw [badN_of_L]
  have hl : (nearL l at_).length = nearHi at_ l.length - nearLo at_ := by unfold nearL nearHi nearLo; rw [List.length_take, List.length_drop]; omega
  have key : ∀ i, 1 ≤ i → i < (nearL l at_).length - 1 → sec wr ((nearL l at_).set (nearK at_) x) i = sec wr (l.set at_ x) (nearLo at_ + i) := fun i h1 h2 => by
    unfold sec stp
    rw [near_set ha (by omega), near_set ha (by omega), near_set ha (by omega), near_set ha (by omega)]
    rw [show nearLo at_ + (i + 1) = nearLo at_ + i + 1 by omega, show nearLo at_ + (i - 1 + 1) = nearLo at_ + i - 1 + 1 by omega, show nearLo at_ + (i - 1) = nearLo at_ + i - 1 by omega]
  constructor
  · intro h i h1 h2
    have hi1 : 1 ≤ i - nearLo at_ := by unfold loA at h1; unfold nearLo; omega
    have hi2 : i - nearLo at_ < (nearL l at_).length - 1 := by rw [hl]; unfold hiA at h2; unfold nearHi nearLo; omega
    have := h (i - nearLo at_) hi1 hi2
    rw [key _ hi1 hi2, show nearLo at_ + (i - nearLo at_) = i by unfold loA at h1; unfold nearLo; omega] at this
    exact this
  · intro h i h1 h2
    rw [key i h1 h2]
    refine h _ ?_ ?_
    · unfold loA nearLo; omega
    · rw [hl] at h2; unfold nearHi nearLo at h2; unfold hiA nearLo; omega
theorem frm_to {wr : Bool} {a x : Int} (hx : permB wr x = true) : frm wr (a + frm wr (x - a)) = x := by
  unfold permB at hx; unfold frm
  cases wr
  · simp; omega
  · simp at hx ⊢; omega
theorem frm_back {wr : Bool} {a x : Int} (hx : permB wr x = true) : frm wr (a - frm wr (a - x)) = x := by
  unfold permB at hx; unfold frm
  cases wr
  · simp; omega
  · simp at hx ⊢; omega
theorem frm_in {wr : Bool} {a : Int} (h : wr = true) : 0 ≤ frm wr a ∧ frm wr a < 216000 := by
  subst h; unfold frm; simp; omega
/-- Two steps that go together from one entry to another one. -/
theorem two_steps (wr : Bool) (a b x : Int) : frm wr (x - a) + frm wr (b - x) = frm wr (b - a) ∨ (wr = true ∧ frm wr (x - a) + frm wr (b - x) = frm wr (b - a) + 216000) := by
  unfold frm
  cases wr
  · left; simp; omega
  · simp; omega
theorem sec_at {wr : Bool} {l : List Int} {at_ i : Nat} {x : Int} (ha : at_ < l.length) : sec wr (l.set at_ x) i = frm wr ((if i + 1 = at_ then x else nth l (i + 1)) - (if i = at_ then x else nth l i)) - frm wr ((if i - 1 + 1 = at_ then x else nth l (i - 1 + 1)) - (if i - 1 = at_ then x else nth l (i - 1))) := by
  unfold sec stp
  rw [nth_set _ _ _ ha, nth_set _ _ _ ha, nth_set _ _ _ ha, nth_set _ _ _ ha]
theorem raw_of_fit {wr : Bool} {l : List Int} {bend : Int} {at_ : Nat} {x : Int} (h3 : 3 ≤ l.length) (b0 : 0 ≤ bend) (ha : at_ < l.length) (hx : permB wr x = true) (hf : fitB wr l bend at_ x = true) : x ∈ rawL wr l bend at_ := by
  have hfit := fit_iff.1 hf
  have hcm : (cntM bend : Int) = 2 * (bend + 2) + 1 := by unfold cntM; omega
  unfold rawL
  by_cases h1 : 2 ≤ at_
  · rw [if_pos h1]
    obtain ⟨k, rfl⟩ : ∃ k, at_ = k + 2 := ⟨at_ - 2, by omega⟩
    have h := hfit (k + 1) (by unfold loA; omega) (by unfold hiA; omega)
    rw [sec_at ha, if_pos rfl, if_neg (by omega), show k + 1 - 1 = k by omega, if_neg (by omega), if_neg (by omega)] at h
    rw [show k + 2 - 2 = k by omega]
    unfold raw1 stp
    generalize hS : frm wr (nth l (k + 1) - nth l k) = S at *
    generalize hK : frm wr (x - nth l (k + 1)) = K at *
    refine mem_addL.2 ⟨(K - (S - (bend + 2))).toNat, by omega, ?_⟩
    have e : S - (bend + 2) + ((K - (S - (bend + 2))).toNat : Int) = K := by omega
    rw [e]
    exact mem_addK.2 ⟨by rw [← hK]; exact (frm_to hx).symm, hx, fun hw => by rw [← hK]; exact frm_in hw⟩
  · rw [if_neg h1]
    by_cases h2 : at_ + 2 < l.length
    · rw [if_pos h2]
      have h := hfit (at_ + 1) (by unfold loA; omega) (by unfold hiA; omega)
      rw [sec_at ha, if_neg (by omega), if_neg (by omega), show at_ + 1 - 1 = at_ by omega, if_neg (by omega), if_pos rfl] at h
      unfold raw2 stp
      generalize hS : frm wr (nth l (at_ + 1 + 1) - nth l (at_ + 1)) = S at *
      generalize hK : frm wr (nth l (at_ + 1) - x) = K at *
      refine mem_addL.2 ⟨(K - (S - (bend + 2))).toNat, by omega, ?_⟩
      have e : S - (bend + 2) + ((K - (S - (bend + 2))).toNat : Int) = K := by omega
      rw [e]
      exact mem_addK.2 ⟨by rw [← hK]; exact (frm_back hx).symm, hx, fun hw => by rw [← hK]; exact frm_in hw⟩
    · rw [if_neg h2]
      obtain rfl : at_ = 1 := by omega
      have h := hfit 1 (by unfold loA; omega) (by unfold hiA; omega)
      have hs : sec wr (l.set 1 x) 1 = frm wr (nth l 2 - x) - frm wr (x - nth l 0) := by rw [sec_at ha]; rfl
      rw [hs] at h
      have ht := two_steps wr (nth l 0) (nth l 2) x
      unfold raw3
      have hmem : ∀ S : Int, frm wr (x - nth l 0) + frm wr (nth l 2 - x) = S → x ∈ addL wr (fun x => nth l 0 + x) (half1 S bend) (cntH S bend) := fun S hS => by
        have e1 := Int.tmod_add_mul_tdiv (S - (bend + 2)) 2
        have t1 := Int.tmod_lt_of_pos (S - (bend + 2)) (show (0 : Int) < 2 by decide)
        have t2 : -2 < (S - (bend + 2)).tmod 2 := Int.lt_tmod_of_pos _ (by decide)
        have e2 := Int.tmod_add_mul_tdiv (S + (bend + 2)) 2
        have t3 := Int.tmod_lt_of_pos (S + (bend + 2)) (show (0 : Int) < 2 by decide)
        have t4 : -2 < (S + (bend + 2)).tmod 2 := Int.lt_tmod_of_pos _ (by decide)
        have hb1 : half1 S bend = (S - (bend + 2)).tdiv 2 - 1 := rfl
        have hb2 : half2 S bend = (S + (bend + 2)).tdiv 2 + 1 := rfl
        have hc : (cntH S bend : Int) = half2 S bend - half1 S bend + 1 ∨ cntH S bend = 0 := by unfold cntH; omega
        generalize hK : frm wr (x - nth l 0) = K at *
        have hin : half1 S bend ≤ K ∧ K ≤ half2 S bend := by
          rw [hb1, hb2]
          generalize frm wr (nth l 2 - x) = K2 at *
          omega
        refine mem_addL.2 ⟨(K - half1 S bend).toNat, by unfold cntH; omega, ?_⟩
        have e : half1 S bend + ((K - half1 S bend).toNat : Int) = K := by omega
        rw [e]
        exact mem_addK.2 ⟨by rw [← hK]; exact (frm_to hx).symm, hx, fun hw => by rw [← hK]; exact frm_in hw⟩
      rcases ht with ht | ⟨hw, ht⟩
      · exact List.mem_append_left _ (hmem _ ht)
      · refine List.mem_append_right _ ?_
        rw [if_pos hw]
        exact hmem _ ht
end Go.Proofs.YtmmfkleplbofgaaGreatDoor
/- The reference's Repairs are audit's: the lists are equal. -/
namespace Go.Proofs.YtmmfkleplbofgaaGreatDoor
open Go.RowKit

theorem frm_self {wr : Bool} {x : Int} (hx : permB wr x = true) : frm wr x = x := by
  unfold permB at hx; unfold frm
  cases wr
  · rfl
  · simp at hx ⊢; omega
theorem frm_tri {wr : Bool} {a x : Int} (hx : permB wr x = true) : frm wr (a - frm wr (a - x)) = x := frm_back hx
theorem tries_of_fit {wr : Bool} {l : List Int} {bend : Int} {at_ : Nat} {x : Int} (h3 : 3 ≤ l.length) (ha : at_ < l.length) (hx : permB wr x = true) (hf : fitB wr l bend at_ x = true) : ∃ t, t ∈ triesL wr l bend at_ ∧ frm wr t = x := by
  have hfit := fit_iff.1 hf
  have hcm : ∀ d : Int, -(bend + 2) ≤ d → d ≤ bend + 2 → ((d + (bend + 2)).toNat < cntM bend ∧ -(bend + 2) + ((d + (bend + 2)).toNat : Int) = d) := fun d h1 h2 => by unfold cntM; omega
  unfold triesL
  by_cases h0 : at_ = 0
  · subst h0
    have h := hfit 1 (by unfold loA; omega) (by unfold hiA; omega)
    have hs : sec wr (l.set 0 x) 1 = frm wr (nth l 2 - nth l 1) - frm wr (nth l 1 - x) := by rw [sec_at ha]; rfl
    obtain ⟨c1, c2⟩ := hcm _ h.1 h.2
    refine ⟨nth l 1 - frm wr (nth l 1 - x), mem_tryL.2 ⟨_, c1, ?_⟩, frm_back hx⟩
    rw [c2, hs]
    unfold tryK
    rw [if_pos rfl]
    unfold tryA stp
    rw [List.mem_singleton, show (1 + 1 : Nat) = 2 from rfl]
    omega
  · by_cases h1 : at_ + 1 = l.length
    · obtain ⟨k, rfl⟩ : ∃ k, at_ = k + 2 := ⟨at_ - 2, by omega⟩
      have h := hfit (k + 1) (by unfold loA; omega) (by unfold hiA; omega)
      have hs : sec wr (l.set (k + 2) x) (k + 1) = frm wr (x - nth l (k + 1)) - frm wr (nth l (k + 1) - nth l k) := by
        rw [sec_at ha, if_pos rfl, if_neg (by omega), show k + 1 - 1 = k by omega, if_neg (by omega), if_neg (by omega)]
      obtain ⟨c1, c2⟩ := hcm _ h.1 h.2
      refine ⟨nth l (k + 1) + frm wr (x - nth l (k + 1)), mem_tryL.2 ⟨_, c1, ?_⟩, frm_to hx⟩
      rw [c2, hs]
      unfold tryK
      rw [if_neg h0, if_pos h1]
      unfold tryB stp
      rw [List.mem_singleton, ← h1, show k + 2 + 1 - 2 = k + 1 by omega, show k + 2 + 1 - 3 = k by omega]
      omega
    · obtain ⟨k, rfl⟩ : ∃ k, at_ = k + 1 := ⟨at_ - 1, by omega⟩
      have h := hfit (k + 1) (by unfold loA; omega) (by unfold hiA; omega)
      have hs : sec wr (l.set (k + 1) x) (k + 1) = frm wr (nth l (k + 2) - x) - frm wr (x - nth l k) := by
        rw [sec_at ha, if_neg (by omega), if_pos rfl, show k + 1 - 1 = k by omega, if_pos rfl, if_neg (by omega)]
      obtain ⟨c1, c2⟩ := hcm _ h.1 h.2
      have ht := two_steps wr (nth l k) (nth l (k + 2)) x
      refine ⟨nth l k + frm wr (x - nth l k), mem_tryL.2 ⟨_, c1, ?_⟩, frm_to hx⟩
      rw [c2, hs]
      unfold tryK
      rw [if_neg h0, if_neg h1]
      unfold tryC
      rw [show k + 1 + 1 = k + 2 by omega, show k + 1 - 1 = k by omega]
      generalize frm wr (x - nth l k) = a at *
      generalize frm wr (nth l (k + 2) - x) = b at *
      generalize frm wr (nth l (k + 2) - nth l k) = g at *
      rcases ht with ht | ⟨hw, ht⟩
      · refine List.mem_append_left _ ?_
        have e : g - (b - a) = a * 2 := by omega
        rw [e, Int.mul_tmod_left, if_pos rfl, Int.mul_tdiv_cancel _ (by decide)]
        exact List.mem_singleton.2 rfl
      · refine List.mem_append_right _ ?_
        have e : g + 216000 - (b - a) = a * 2 := by omega
        rw [e, Int.mul_tmod_left, if_pos ⟨hw, rfl⟩, Int.mul_tdiv_cancel _ (by decide)]
        exact List.mem_singleton.2 rfl
theorem fold_asc (wr : Bool) (l : List Int) (bend : Int) (at_ : Nat) : ∀ (T out : List Int), Asc out → Asc (T.foldl (addP wr l bend at_) out)
  | [], _, h => h
  | t :: T, out, h => by
    refine fold_asc wr l bend at_ T _ ?_
    unfold addP
    split
    · exact asc_putI h
    · exact h
theorem mem_fold {wr : Bool} {l : List Int} {bend : Int} {at_ : Nat} {x : Int} : ∀ {T out : List Int}, x ∈ T.foldl (addP wr l bend at_) out ↔ x ∈ out ∨ ∃ t, t ∈ T ∧ frm wr t = x ∧ permB wr x = true ∧ goodB wr l bend at_ x = true
  | [], out => by simp
  | t :: T, out => by
    rw [List.foldl_cons, mem_fold (T := T)]
    constructor
    · rintro (h | ⟨u, h1, h2⟩)
      · unfold addP at h
        split at h
        · rename_i hc
          rw [Bool.and_eq_true] at hc
          rcases mem_putI.1 h with h | h
          · subst h; exact .inr ⟨t, List.mem_cons_self .., rfl, hc.1, hc.2⟩
          · exact .inl h
        · exact .inl h
      · exact .inr ⟨u, List.mem_cons_of_mem _ h1, h2⟩
    · rintro (h | ⟨u, h1, h2, h3, h4⟩)
      · refine .inl ?_
        unfold addP
        split
        · exact mem_putI.2 (.inr h)
        · exact h
      · rcases List.mem_cons.1 h1 with h1 | h1
        · subst h1
          refine .inl ?_
          unfold addP
          rw [h2, h3, h4, Bool.and_self, if_pos rfl]
          exact mem_putI.2 (.inl rfl)
        · exact .inr ⟨u, h1, h2, h3, h4⟩
theorem ref_rep {wr : Bool} {l : List Int} {bend : Int} {at_ : Nat} (h3 : 3 ≤ l.length) (b0 : 0 ≤ bend) (ha : at_ < l.length) : refL wr l bend at_ = repL wr l bend at_ := by
  unfold refL repL
  split
  · rfl
  · refine asc_eq (fold_asc _ _ _ _ _ _ List.Pairwise.nil) (asc_filter (asc_once _) _) fun x => ?_
    rw [mem_fold, List.mem_filter, mem_once]
    constructor
    · rintro (h | ⟨t, h1, h2, h4, h5⟩)
      · exact absurd h (List.not_mem_nil)
      · have hf := (good_fit h3 ha).1 h5
        exact ⟨raw_of_fit h3 b0 ha h4 hf, hf⟩
    · rintro ⟨h1, h2⟩
      have hp := raw_perm h1
      obtain ⟨t, ht, e⟩ := tries_of_fit h3 ha hp h2
      exact .inr ⟨t, ht, e, hp, (good_fit h3 ha).2 h2⟩
end Go.Proofs.YtmmfkleplbofgaaGreatDoor
/- The reference's Suspect. -/
namespace Go.Proofs.YtmmfkleplbofgaaGreatDoor
open Go.RowKit

/-- The call returns a new slice that reads so. -/
def SlF (w : World) (l : List Int) (e : Ending) (w' : World) : Prop := ∃ v d, e = .returned v ∧ w' = bw w d ∧ Sl (bw w d) v l ∧ Frsh w v
theorem asc_reps (wr : Bool) (l : List Int) (bend : Int) (lo hi : Nat) : Asc (reps wr l bend lo hi) := by
  unfold reps Asc
  rw [List.pairwise_map]
  refine List.Pairwise.filter _ ?_
  exact (List.pairwise_lt_range' (s := lo) (n := hi - lo)).imp fun h => by simpa using h
theorem reps_all {wr : Bool} {l : List Int} {bend : Int} (hB : badL wr l bend 1 (l.length - 1) ≠ []) : reps wr l bend (susLo (badL wr l bend 1 (l.length - 1))) (susHi (badL wr l bend 1 (l.length - 1)) l.length) = reps wr l bend 0 l.length := by
  have hpos : 0 < (badL wr l bend 1 (l.length - 1)).length := List.length_pos_iff.2 hB
  have h0 := bad_at (i := 0) hpos
  have h1 := bad_at (i := (badL wr l bend 1 (l.length - 1)).length - 1) (show _ < (badL wr l bend 1 (l.length - 1)).length by omega)
  refine asc_eq (asc_reps _ _ _ _ _) (asc_reps _ _ _ _ _) fun x => ?_
  rw [mem_reps, mem_reps]
  constructor
  · rintro ⟨i, e, h2, h3, h4⟩
    refine ⟨i, e, Nat.zero_le _, ?_, h4⟩
    unfold susHi at h3; omega
  · rintro ⟨i, e, _, h3, h4⟩
    refine ⟨i, e, ?_, ?_, h4⟩
    · have hf : farB i (nth (badL wr l bend 1 (l.length - 1)) ((badL wr l bend 1 (l.length - 1)).length - 1)) = false := by
        cases hc : farB i (nth (badL wr l bend 1 (l.length - 1)) ((badL wr l bend 1 (l.length - 1)).length - 1))
        · rfl
        · refine absurd ?_ h4
          unfold repL
          rw [if_pos (any_yes (by omega) hc)]
      unfold farB at hf
      simp at hf
      unfold susLo; omega
    · have hf : farB i (nth (badL wr l bend 1 (l.length - 1)) 0) = false := by
        cases hc : farB i (nth (badL wr l bend 1 (l.length - 1)) 0)
        · rfl
        · refine absurd ?_ h4
          unfold repL
          rw [if_pos (any_yes hpos hc)]
      unfold farB at hf
      simp at hf
      unfold susHi; omega
theorem sus_all (wr : Bool) (l : List Int) (bend : Int) : susL wr l bend = if badL wr l bend 1 (l.length - 1) = [] then [] else sus2 wr l bend 0 l.length (badL wr l bend 1 (l.length - 1)) := by
  unfold susL
  by_cases h : badL wr l bend 1 (l.length - 1) = []
  · rw [if_pos h, if_pos h]
  · rw [if_neg h, if_neg h]
    unfold sus2
    rw [reps_all h]
set_option maxHeartbeats 1000000 in
set_option maxRecDepth 100000 in
theorem re_Suspect (v : Value) (l : List Int) (wr : Bool) (bend : Int) (w : World) (hs : Sl w v l) (hg : Giv wr l) (b0 : 0 ≤ bend) (b1 : bend ≤ 1000) :
    Calls Tryz.prog 36 #[v, .int .i64 bend, .bool wr] w (SlF w (susL wr l bend)) := by
  have hn := hg.n1000
  have hn3 := hg.n3
  have HCe := Lib.hid (fun W (h : Sl W v l) => re_Centres v l wr bend W h hg b0 b1)
  have HRp := Lib.hid (fun W (k : Nat) (hk : k < l.length) (h : Sl W v l) => (ref_rep (wr := wr) (bend := bend) hn3 b0 hk) ▸ re_Repairs v l wr bend k W h hg b0 b1 hk)
  have HS := Lib.hid hs
  obtain ⟨b, o, cap, rfl, hc, -, hb, hr⟩ := hs.open (by omega)
  rw [sus_all]
  obtain ⟨m, hm⟩ : ∃ m, l.length = m := ⟨_, rfl⟩
  rw [hm] at HCe HRp HS hn hn3 hc ⊢
  clear hr hs hg hm
  generalize badL wr l bend 1 (m - 1) = B at *
  by_cases hz : B = []
  · subst hz
    rw [if_pos rfl]
    refine lay_start ?_
    go_enter Tryz.func36, Tryz.ntmps36
    go_wp2_with fail
    refine (HCe.out _ (HS.out.lay _)).mono ?_
    rintro e w' ⟨vb, db, rfl, rfl, hvb⟩
    obtain ⟨ba, bc, rfl⟩ := hvb.form
    rw [lay_bw]
    clear hvb
    go_wp2
    go_ret
    exact ⟨_, db, rfl, rfl, Sl.nil _, Frsh.nil _⟩
  · rw [if_neg hz]
    have hpos : 0 < B.length := List.length_pos_iff.2 hz
    obtain ⟨q, hq⟩ : ∃ q, B.length = q := ⟨_, rfl⟩
    have HQ := Lib.hid hq
    rw [hq] at hpos
    have hz1 : ((q : Int) == 0) = false := beq_eq_false_iff_ne.2 (by omega)
    have HSU : Hid (sus2 wr l bend 0 m B = if reps wr l bend 0 m = [] then B else reps wr l bend 0 m) := Lib.hid rfl
    clear hq hz
    refine lay_start ?_
    go_enter Tryz.func36, Tryz.ntmps36
    go_wp2_with fail
    refine (HCe.out _ (HS.out.lay _)).mono ?_
    rintro e w' ⟨vb, db, rfl, rfl, hvb⟩
    obtain ⟨ba, bc, rfl⟩ := hvb.form
    rw [HQ.out] at hvb ⊢
    rw [lay_bw] at hvb ⊢
    have HVB := Lib.hid hvb
    clear hvb
    go_wp2_with fail
    go_loopw [8, 9] (fun v8 v9 wr' => ∃ (k : Nat) (dd : Ext), k ≤ m ∧ v9 = .int .i64 (k : Int) ∧ wr' = lay w [.inr dd, .inr db] ∧ Ow (lay w [.inr dd, .inr db]) (lay w [.inr db]).heap.size v8 (reps wr l bend 0 k)) (fun _ v9 _ => m - (intOf v9).toNat)
    case atStart => exact ⟨0, noExt _, Nat.zero_le _, rfl, (bw_noExt _).symm, by rw [reps_self _ _ _ _ _ (Nat.le_refl _)]; exact Ow.nil _ _⟩
    case round =>
      obtain ⟨k, dd, hk, rfl, rfl, hO⟩ := hrel
      by_cases hlt : k < m
      · have hst := reps_step wr l bend 0 k (Nat.zero_le _)
        have hrl := reps_len wr l bend 0 k
        have HR := Lib.hid (fun W h => HRp.out W k hlt h)
        have x1 : (k : Int) < (m : Int) := by omega
        have HO := Lib.hid hO
        clear hO
        generalize reps wr l bend 0 k = R at *
        generalize repL wr l bend k = RL at *
        go_wp2_with fail
        refine (HR.out _ (HS.out.lay _)).mono ?_
        rintro e w' ⟨vr, dr, rfl, rfl, hvr⟩
        obtain ⟨ra, rc, rfl, -⟩ := hvr.sl
        rw [lay_bw]
        clear hvr
        by_cases hRL : RL = []
        · subst hRL
          have HST : Hid (reps wr l bend 0 (k + 1) = R) := Lib.hid (by rw [hst]; simp)
          clear hst
          go_wp2_with fail
          go_roundw
          case rel => exact ⟨k + 1, _, hlt, by go_num, Classical.choose_spec (lay_fold w [_, _] [.inr db]), by rw [← Classical.choose_spec (lay_fold w [_, _] [.inr db]), HST.out]; exact ow_on (A := [_]) HO.out⟩
          case measure => simp [intOf]; omega
        · have HST : Hid (reps wr l bend 0 (k + 1) = R ++ [(k : Int)]) := Lib.hid (by rw [hst, if_neg hRL])
          have hz2 : 0 < RL.length := List.length_pos_iff.2 hRL
          have hz3 : decide ((0 : Int) < (RL.length : Int)) = true := decide_eq_true (by omega)
          clear hst hRL
          generalize RL.length = rl at *
          go_wp2_with (at_builtin; refine push_int rfl _ _ rfl (lay w [.inr db]) _ ((k : Int)) 3 _ _ _ ?_ (ow_on (A := [_, _]) HO.out) ?_ rfl rfl (by omega) (lit_nat (by omega)) ?_; exact lay_below (A := [_, _, _]); exact lay_get w _ 0 _ rfl; intro v' d' hv')
          go_roundw
          case rel => exact ⟨k + 1, d', hlt, by go_num, rfl, by rw [HST.out]; exact hv'⟩
          case measure => simp [intOf]; omega
      · obtain rfl : k = m := by omega
        have x1 : (k : Int) ≤ (k : Int) := Int.le_refl _
        generalize reps wr l bend 0 k = R at *
        obtain ⟨oa, oc, rfl⟩ := hO.form
        have HO := Lib.hid hO
        clear hO
        by_cases hR : R = []
        · have HSU : Hid (sus2 wr l bend 0 k B = B) := Lib.hid (by rw [HSU.out, if_pos hR])
          subst hR
          go_wp2
          go_ret
          obtain ⟨z, hz⟩ := lay_ex w [.inr dd, .inr db]
          have h := ow_on (A := [.inr dd]) (B := [.inr db]) HVB.out
          exact ⟨_, z, rfl, hz, by rw [← hz, HSU.out]; exact h.sl, Frsh.of h (lay_extends w _).size⟩
        · have HSU : Hid (sus2 wr l bend 0 k B = R) := Lib.hid (by rw [HSU.out, if_neg hR])
          have hz2 : 0 < R.length := List.length_pos_iff.2 hR
          have hz3 : ((R.length : Int) == 0) = false := beq_eq_false_iff_ne.2 (by omega)
          obtain ⟨rl, hrl⟩ : ∃ rl, R.length = rl := ⟨_, rfl⟩
          rw [hrl] at hz2 hz3 HO ⊢
          clear hrl hR
          go_wp2
          go_ret
          obtain ⟨z, hz⟩ := lay_ex w [.inr dd, .inr db]
          exact ⟨_, z, rfl, hz, by rw [← hz, HSU.out]; exact HO.out.sl, Frsh.of HO.out (lay_extends w _).size⟩
end Go.Proofs.YtmmfkleplbofgaaGreatDoor
/- The reference's Suspects. -/
namespace Go.Proofs.YtmmfkleplbofgaaGreatDoor
open Go.RowKit

set_option maxHeartbeats 1000000 in
set_option maxRecDepth 100000 in
theorem re_Suspects_ok (s : ByteArray) (vg vd : Value) (g d : List Int) (p q r : Int) (w : World) (hg : Sl w vg g) (hd : Sl w vd d) (h1 : gvE true g r = 0) (h2 : gvE false d r = 0) :
    Calls Tryz.prog 19 #[.agg #[.string s, vg, vd, .int .i64 p, .int .i64 q, .int .i64 r]] w (SusF w (susL true g r) (susL false d r) 0) := by
  obtain ⟨G1, b0, b1⟩ := gvE_0.1 h1
  obtain ⟨G2, _, _⟩ := gvE_0.1 h2
  have HG1 := Lib.hid (fun W (h : Sl W vg g) => re_Possible vg g true r W h)
  have HG2 := Lib.hid (fun W (h : Sl W vd d) => re_Possible vd d false r W h)
  rw [h1] at HG1
  rw [h2] at HG2
  have HS1 := Lib.hid (fun W (h : Sl W vg g) => re_Suspect vg g true r W h G1 b0 b1)
  have HS2 := Lib.hid (fun W (h : Sl W vd d) => re_Suspect vd d false r W h G2 b0 b1)
  have HL1 := Lib.hid hg
  have HL2 := Lib.hid hd
  obtain ⟨a1, c1, hv1, -⟩ := hg
  obtain ⟨a2, c2, hv2, -⟩ := hd
  subst hv1 hv2
  clear h1 h2 G1 G2
  generalize susL true g r = R1 at *
  generalize susL false d r = R2 at *
  generalize g.length = n1 at *
  generalize d.length = n2 at *
  refine lay_start ?_
  go_enter Tryz.func19, Tryz.ntmps19
  go_wp2_with fail
  refine (HG1.out _ (HL1.out.lay _)).mono ?_
  rintro e w' ⟨rfl, d1, rfl⟩
  rw [lay_bw]
  go_wp2_with fail
  refine (HG2.out _ (HL2.out.lay _)).mono ?_
  rintro e w' ⟨rfl, d2, rfl⟩
  rw [lay_bw]
  go_wp2_with fail
  refine region_mixP [(0, 0), (1, 0), (2, 0), (3, 0), (5, 0), (6, 0), (7, 0), (8, 0), (4, 1), (9, 1)] (by kernel_rfl) (by kernel_rfl) (by kernel_rfl) (by kernel_rfl) (by decide) (by kernel_rfl) ?_
  simp only [List.drop_succ_cons, List.drop_zero, List.length_cons, List.length_nil, Nat.reduceAdd]
  iterate 8 (refine wpMP_quiet rfl (fun K hK => ?_); go_simp; refine hK _ ?_; clear hK K)
  refine wpMP_special rfl (fun K hK e1 => ?_)
  go_simp
  refine (HS1.out _ (HL1.out.lay _)).mono ?_
  rintro e w' ⟨v1, da, rfl, rfl, ho1, hf1⟩
  have H1 : Hid (Sl (lay w [.inr da, .inr e1, .inr d2, .inr d1, .inl (.cells #[.string s, .slice a1 n1 c1, .slice a2 n2 c2, .int .i64 p, .int .i64 q, .int .i64 r] 31 (0, 0))]) v1 R1) := Lib.hid ho1
  have F1 : Hid (Frsh w v1) := Lib.hid (fun k hk => Nat.le_trans (lay_extends w _).size (hf1 k hk))
  clear ho1 hf1
  refine ⟨v1, rfl, ?_⟩
  go_simp
  refine hK _ _ (lay_in w [_, _] _) ?_
  clear hK K
  refine wpMP_special rfl (fun K hK e2 => ?_)
  go_simp
  refine (HS2.out _ (HL2.out.lay _)).mono ?_
  rintro e w' ⟨v2, db, rfl, rfl, ho2, hf2⟩
  have H2 : Hid (Sl (lay w [.inr db, .inr e2, .inr da, .inr e1, .inr d2, .inr d1, .inl (.cells #[.string s, .slice a1 n1 c1, .slice a2 n2 c2, .int .i64 p, .int .i64 q, .int .i64 r] 31 (0, 0))]) v2 R2) := Lib.hid ho2
  have F2 : Hid (Frsh w v2) := Lib.hid (fun k hk => Nat.le_trans (lay_extends w _).size (hf2 k hk))
  clear ho2 hf2
  refine ⟨v2, rfl, ?_⟩
  go_simp
  refine hK _ _ (lay_in w [_, _, _, _] _) ?_
  clear hK K
  refine wpMP_nil (fun e3 => ?_)
  rw [lay_bw]
  go_wp2
  obtain ⟨z, hz⟩ := lay_ex w [.inr e3, .inr db, .inr e2, .inr da, .inr e1, .inr d2, .inr d1, .inl (.cells #[.string s, .slice a1 n1 c1, .slice a2 n2 c2, .int .i64 p, .int .i64 q, .int .i64 r] 31 (0, 0))]
  have h1 := sl_on (A := [.inr e3, .inr db, .inr e2]) H1.out
  have h2 := sl_on (A := [.inr e3]) H2.out
  exact bodyPost_ret (v := .tuple #[v1, v2, .int .i64 0]) (by simp [results, Tryz.results19, go_sem]) rfl ⟨v1, v2, z, rfl, hz, ⟨hz ▸ h1, hz ▸ h2⟩, F1.out, F2.out⟩
set_option maxHeartbeats 1000000 in
theorem re_Suspects_no (s : ByteArray) (vg vd : Value) (g d : List Int) (p q r : Int) (w : World) (hg : Sl w vg g) (hd : Sl w vd d) (h : susE g d r ≠ 0) :
    Calls Tryz.prog 19 #[.agg #[.string s, vg, vd, .int .i64 p, .int .i64 q, .int .i64 r]] w (SusF w [] [] (susE g d r)) := by
  have HG1 := Lib.hid (fun W (h : Sl W vg g) => re_Possible vg g true r W h)
  have HG2 := Lib.hid (fun W (h : Sl W vd d) => re_Possible vd d false r W h)
  have HL1 := Lib.hid hg
  have HL2 := Lib.hid hd
  obtain ⟨a1, c1, hv1, -⟩ := hg
  obtain ⟨a2, c2, hv2, -⟩ := hd
  subst hv1 hv2
  have hE : susE g d r = if gvE true g r = 0 then gvE false d r else gvE true g r := rfl
  rw [hE] at h ⊢
  by_cases h1 : gvE true g r = 0
  · rw [if_pos h1] at h ⊢
    rw [h1] at HG1
    have t1 : (gvE false d r == 0) = false := beq_eq_false_iff_ne.2 h
    clear hE h h1
    generalize gvE false d r = E at *
    generalize g.length = n1 at *
    generalize d.length = n2 at *
    refine lay_start ?_
    go_enter Tryz.func19, Tryz.ntmps19
    go_wp2_with fail
    refine (HG1.out _ (HL1.out.lay _)).mono ?_
    rintro e w' ⟨rfl, d1, rfl⟩
    rw [lay_bw]
    go_wp2_with fail
    refine (HG2.out _ (HL2.out.lay _)).mono ?_
    rintro e w' ⟨rfl, d2, rfl⟩
    rw [lay_bw]
    go_wp2
    obtain ⟨z, hz⟩ := lay_ex w [.inr d2, .inr d1, .inl (.cells #[.string s, .slice a1 n1 c1, .slice a2 n2 c2, .int .i64 p, .int .i64 q, .int .i64 r] 31 (0, 0))]
    exact bodyPost_ret (v := .tuple #[.slice none 0 0, .slice none 0 0, .int .i64 E]) (by simp [results, Tryz.results19, go_sem]) rfl ⟨_, _, z, rfl, hz, ⟨Sl.nil _, Sl.nil _⟩, Frsh.nil _, Frsh.nil _⟩
  · rw [if_neg h1] at h ⊢
    have t1 : (gvE true g r == 0) = false := beq_eq_false_iff_ne.2 h
    clear hE h h1 HG2
    generalize gvE true g r = E at *
    generalize g.length = n1 at *
    generalize d.length = n2 at *
    refine lay_start ?_
    go_enter Tryz.func19, Tryz.ntmps19
    go_wp2_with fail
    refine (HG1.out _ (HL1.out.lay _)).mono ?_
    rintro e w' ⟨rfl, d1, rfl⟩
    rw [lay_bw]
    go_wp2
    obtain ⟨z, hz⟩ := lay_ex w [.inr d1, .inl (.cells #[.string s, .slice a1 n1 c1, .slice a2 n2 c2, .int .i64 p, .int .i64 q, .int .i64 r] 31 (0, 0))]
    exact bodyPost_ret (v := .tuple #[.slice none 0 0, .slice none 0 0, .int .i64 E]) (by simp [results, Tryz.results19, go_sem]) rfl ⟨_, _, z, rfl, hz, ⟨Sl.nil _, Sl.nil _⟩, Frsh.nil _, Frsh.nil _⟩
theorem re_Suspects (s : ByteArray) (vg vd : Value) (g d : List Int) (p q r : Int) (w : World) (hg : Sl w vg g) (hd : Sl w vd d) :
    Calls Tryz.prog 19 #[.agg #[.string s, vg, vd, .int .i64 p, .int .i64 q, .int .i64 r]] w (SusF w (susG g d r) (susD g d r) (susE g d r)) := by
  unfold susG susD
  by_cases h : susE g d r = 0
  · rw [if_pos h, if_pos h, h]
    have h1 : gvE true g r = 0 := by unfold susE at h; split at h <;> assumption
    have h2 : gvE false d r = 0 := by unfold susE at h; rw [if_pos h1] at h; exact h
    exact re_Suspects_ok s vg vd g d p q r w hg hd h1 h2
  · rw [if_neg h, if_neg h]
    exact re_Suspects_no s vg vd g d p q r w hg hd h
end Go.Proofs.YtmmfkleplbofgaaGreatDoor

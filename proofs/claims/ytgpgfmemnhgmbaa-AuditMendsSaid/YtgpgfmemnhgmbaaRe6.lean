/- The reference's Repairs. -/
import Derived.Test.YtgpgfmemnhgmbaaProg
import Derived.Test.YtgpgfmemnhgmbaaLay
import Derived.Test.YtgpgfmemnhgmbaaRegion
import Derived.Test.YtgpgfmemnhgmbaaMix
import Derived.WalkKit
import Derived.WalkSpells
import Derived.WalkLawsBesides
import Derived.Lib.Hide
import Derived.BigQuiet
import Derived.Test.YtgpgfmemnhgmbaaPlain
import Derived.Test.YtgpgfmemnhgmbaaAngle
import Derived.Test.YtgpgfmemnhgmbaaRe5
namespace Go.Proofs.Ytgpgfmemnhgmbaa
open Go.RowKit

/-- A slice that is nil where it is empty. -/
def OutS (w : World) (v : Value) (l : List Int) : Prop := (l = [] ∧ v = .slice none 0 0) ∨ (0 < l.length ∧ Sl w v l)
theorem OutS.sl {w : World} {v : Value} {l : List Int} (h : OutS w v l) : Sl w v l := by
  rcases h with ⟨rfl, rfl⟩ | ⟨_, h⟩
  · exact Sl.nil w
  · exact h
theorem OutS.ext {w w' : World} {v : Value} {l : List Int} (h : OutS w v l) (hb : Below w.heap.size w w') : OutS w' v l := h.imp id fun ⟨h1, h2⟩ => ⟨h1, h2.ext hb⟩
def OutR (w : World) (l : List Int) (e : Ending) (w' : World) : Prop := ∃ v d, e = .returned v ∧ w' = bw w d ∧ OutS (bw w d) v l
theorem putI_pos (x : Int) (l : List Int) : 0 < (putI x l).length := List.length_pos_iff.2 (by
  intro h
  have : x ∈ putI x l := mem_putI.2 (.inl rfl)
  rw [h] at this; exact absurd this (List.not_mem_nil))
theorem putI_len (x : Int) : ∀ l : List Int, (putI x l).length ≤ l.length + 1
  | [] => by simp [putI]
  | y :: l => by
    unfold putI
    split
    · have := putI_len x l; simp only [List.length_cons]; omega
    · split <;> simp
theorem re_put_any (v : Value) (l : List Int) (x : Int) (w : World) (hs : OutS w v l) (hn : l.length ≤ 100000000) (hx : (Lit.int .i64 x).wf = true) :
    Calls Try.prog 50 #[v, .int .i64 x] w (OutR w (putI x l)) := by
  rcases hs with ⟨rfl, rfl⟩ | ⟨h1, h2⟩
  · exact (re_put_nil x w hx).mono fun e w' ⟨v', d, h1, h2, h3⟩ => ⟨v', d, h1, h2, .inr ⟨Nat.one_pos, h3⟩⟩
  · exact (re_put v l x w h2 h1 hn hx).mono fun e w' ⟨v', d, h3, h4, h5⟩ => ⟨v', d, h3, h4, .inr ⟨putI_pos x l, h5⟩⟩
def nearK (at_ : Nat) : Nat := at_ - nearLo at_
/-- Do the entries around an index leave no bad centre, with another value there? -/
def goodB (wr : Bool) (l : List Int) (bend : Int) (at_ : Nat) (x : Int) : Bool := (badL wr ((nearL l at_).set (nearK at_) x) bend 1 ((nearL l at_).length - 1)).isEmpty
def addP (wr : Bool) (l : List Int) (bend : Int) (at_ : Nat) (out : List Int) (t : Int) : List Int :=
  if (permB wr (frm wr t) && goodB wr l bend at_ (frm wr t)) = true then putI (frm wr t) out else out
/-- What the reference's Repairs returns. -/
def refL (wr : Bool) (l : List Int) (bend : Int) (at_ : Nat) : List Int :=
  if (badL wr l bend 1 (l.length - 1)).any (farB at_) = true then [] else (triesL wr l bend at_).foldl (addP wr l bend at_) []
theorem addP_len (wr : Bool) (l : List Int) (bend : Int) (at_ : Nat) (out : List Int) (t : Int) : (addP wr l bend at_ out t).length ≤ out.length + 1 := by
  unfold addP
  split
  · exact putI_len _ _
  · omega
theorem fold_take (f : List Int → Int → List Int) (ts : List Int) (k : Nat) (h : k < ts.length) : (ts.take (k + 1)).foldl f [] = f ((ts.take k).foldl f []) (nth ts k) := by
  rw [List.take_succ_eq_append_getElem h, List.foldl_append]
  have e : nth ts k = ts[k] := by unfold nth; simp [List.getD, h]
  rw [e]; rfl
theorem fold_len {f : List Int → Int → List Int} (hf : ∀ o t, (f o t).length ≤ o.length + 1) (ts : List Int) : ∀ k, k ≤ ts.length → ((ts.take k).foldl f []).length ≤ k
  | 0, _ => by simp
  | k + 1, h => by
    rw [fold_take f ts k (by omega)]
    have := fold_len hf ts k (by omega)
    have := hf ((ts.take k).foldl f []) (nth ts k)
    omega
theorem near_len {l : List Int} {at_ : Nat} (h3 : 3 ≤ l.length) (ha : at_ < l.length) : 3 ≤ (nearL l at_).length ∧ (nearL l at_).length ≤ 5 ∧ nearK at_ < (nearL l at_).length := by
  unfold nearL nearK nearLo nearHi
  rw [List.length_take, List.length_drop]
  omega
theorem near_nth {l : List Int} {at_ i : Nat} (h : i < (nearL l at_).length) : nth (nearL l at_) i = nth l (nearLo at_ + i) ∧ nearLo at_ + i < l.length := by
  unfold nearL at h ⊢
  rw [List.length_take, List.length_drop] at h
  exact ⟨nth_cut (by omega), by omega⟩
theorem near_giv {wr : Bool} {l : List Int} {at_ : Nat} (hg : Giv wr l) (ha : at_ < l.length) : Giv wr (nearL l at_) := by
  have h := near_len hg.n3 ha
  refine ⟨h.1, by omega, fun i hi => ?_⟩
  have := near_nth hi
  rw [this.1]; exact hg.perm _ this.2
theorem any_take {l : List Int} {p : Int → Bool} {k : Nat} (hk : k < l.length) (h : (l.take k).any p = false) (hp : p (nth l k) = false) : (l.take (k + 1)).any p = false := by
  rw [List.take_succ_eq_append_getElem hk, List.any_append, h]
  have e : nth l k = l[k] := by unfold nth; simp [List.getD, hk]
  rw [e] at hp
  simp [hp]
theorem any_yes {l : List Int} {p : Int → Bool} {k : Nat} (hk : k < l.length) (hp : p (nth l k) = true) : l.any p = true := List.any_eq_true.2 ⟨_, nth_mem hk, hp⟩
set_option maxHeartbeats 1000000 in
set_option maxRecDepth 100000 in
theorem re_Repairs (v : Value) (l : List Int) (wr : Bool) (bend : Int) (at_ : Nat) (w : World) (hs : Sl w v l) (hg : Giv wr l) (b0 : 0 ≤ bend) (b1 : bend ≤ 1000) (ha : at_ < l.length) :
    Calls Try.prog 34 #[v, .int .i64 bend, .int .i64 (at_ : Int), .bool wr] w (OutR w (refL wr l bend at_)) := by
  have hn := hg.n1000
  have hn3 := hg.n3
  have HCe := Lib.hid (fun W (h : Sl W v l) => re_Centres v l wr bend W h hg b0 b1)
  have HNe := Lib.hid (fun W (h : Sl W v l) => re_near v l at_ W h ha hn)
  have HTr := Lib.hid (fun W (h : Sl W v l) => re_tries v l wr bend at_ W h hg b0 b1 ha)
  have HPg := Lib.hid (near_giv hg ha)
  have HPl := Lib.hid (near_len hn3 ha)
  have HS := Lib.hid hs
  obtain ⟨b, o, cap, rfl, -⟩ := hs.open (by omega)
  have hR : refL wr l bend at_ = if (badL wr l bend 1 (l.length - 1)).any (farB at_) = true then [] else (triesL wr l bend at_).foldl (addP wr l bend at_) [] := rfl
  obtain ⟨RL, hRL⟩ : ∃ RL, refL wr l bend at_ = RL := ⟨_, rfl⟩
  rw [hRL] at hR ⊢
  have HRe := Lib.hid hR
  have hbl := badL_len (wr := wr) (l := l) (bend := bend) (lo := 1) (hi := l.length - 1)
  have htl : (triesL wr l bend at_).length ≤ 10000 := by
    have := tryL_len (tryK wr l at_) (fun d => tryK_len wr l at_ d) (-(bend + 2)) (cntM bend)
    unfold triesL; unfold cntM at *; omega
  obtain ⟨m, hm⟩ : ∃ m, l.length = m := ⟨_, rfl⟩
  rw [hm] at HCe HNe HTr HS HRe hbl hn hn3 ha ⊢
  have w1 : IntKind.i64.wrap ((at_ : Int) - 1) = (at_ : Int) - 1 := IntWalk.i64_in _ (by omega)
  have w2 : IntKind.i64.wrap ((at_ : Int) + 1) = (at_ : Int) + 1 := IntWalk.i64_in _ (by omega)
  have hfold := fold_take (addP wr l bend at_) (triesL wr l bend at_)
  have hfl := fold_len (f := addP wr l bend at_) (fun o t => addP_len wr l bend at_ o t) (triesL wr l bend at_)
  have HFo := Lib.hid hfold
  have HFl := Lib.hid hfl
  clear hR hRL hs hg hm hfold hfl
  generalize badL wr l bend 1 (m - 1) = C at *
  generalize triesL wr l bend at_ = T at *
  refine lay_start ?_
  go_enter Try.func34, Try.ntmps34
  go_wp2_with fail
  refine (HCe.out _ (HS.out.lay _)).mono ?_
  rintro e w' ⟨vc, d1, rfl, rfl, hcv⟩
  obtain ⟨ca, cc, rfl⟩ := hcv.form
  rw [lay_bw] at hcv ⊢
  have HCv := Lib.hid hcv
  clear hcv
  go_wp2_with fail
  go_loop [10] (fun v10 => ∃ k : Nat, k ≤ C.length ∧ v10 = .int .i64 (k : Int) ∧ (C.take k).any (farB at_) = false) (fun v10 => C.length - (intOf v10).toNat)
  case atStart => exact ⟨0, Nat.zero_le _, rfl, rfl⟩
  case round =>
    obtain ⟨k, hk, rfl, hany⟩ := hrel
    have HAny := Lib.hid hany
    clear hany
    by_cases hlt : k < C.length
    · obtain ⟨gc, cc', he, -⟩ := HCv.out.form1 (by omega)
      simp only [Value.slice.injEq] at he
      obtain ⟨rfl, -, -⟩ := he
      have k0 := HCv.out.cell (i := k) hlt
      have x1 : (k : Int) < (C.length : Int) := by omega
      have HT := Lib.hid (any_take (p := farB at_) hlt HAny.out)
      have HY := Lib.hid (any_yes (p := farB at_) hlt)
      generalize nth C k = y at *
      by_cases h1 : y < (at_ : Int) - 1
      · have t1 : decide (y < (at_ : Int) - 1) = true := decide_eq_true h1
        have HE : Hid (RL = []) := Lib.hid (by rw [HRe.out, if_pos (HY.out (by unfold farB; exact decide_eq_true (.inl h1)))])
        go_wp2_with fail
        go_ret
        exact ⟨_, d1, rfl, rfl, .inl ⟨HE.out, rfl⟩⟩
      · have t1 : decide (y < (at_ : Int) - 1) = false := decide_eq_false h1
        by_cases h2 : (at_ : Int) + 1 < y
        · have t2 : decide ((at_ : Int) + 1 < y) = true := decide_eq_true h2
          have HE : Hid (RL = []) := Lib.hid (by rw [HRe.out, if_pos (HY.out (by unfold farB; exact decide_eq_true (.inr h2)))])
          go_wp2_with fail
          go_ret
          exact ⟨_, d1, rfl, rfl, .inl ⟨HE.out, rfl⟩⟩
        · have t2 : decide ((at_ : Int) + 1 < y) = false := decide_eq_false h2
          have HN := Lib.hid (HT.out (by unfold farB; simp; omega))
          go_wp2_with fail
          go_round
          case rel => exact ⟨k + 1, hlt, by go_num, HN.out⟩
          case measure => simp [intOf]; omega
    · obtain rfl : k = C.length := by omega
      have HE : Hid (RL = T.foldl (addP wr l bend at_) []) := Lib.hid (by
        have := HAny.out
        rw [List.take_length] at this
        rw [HRe.out, if_neg (by rw [this]; decide)])
      have x1 : (C.length : Int) ≤ (C.length : Int) := Int.le_refl _
      go_wp2_with fail
      refine (HNe.out _ (HS.out.lay _)).mono ?_
      rintro e w' ⟨vp, d2, rfl, rfl, hp⟩
      rw [lay_bw] at hp ⊢
      have HP := Lib.hid hp
      clear hp
      go_wp2_with fail
      refine (HTr.out _ (HS.out.lay _)).mono ?_
      rintro e w' ⟨vt, d3, rfl, rfl, ht⟩
      obtain ⟨ta, tc, rfl⟩ := ht.form
      rw [lay_bw] at ht ⊢
      have HT := Lib.hid ht
      clear ht
      go_wp2_with fail
      rw [show at_ - nearLo at_ = nearK at_ from rfl]
      have hgo : ∀ x, goodB wr l bend at_ x = (badL wr ((nearL l at_).set (nearK at_) x) bend 1 ((nearL l at_).length - 1)).isEmpty := fun x => rfl
      have HGo := Lib.hid hgo
      have hkk := HPl.out
      clear hgo HAny HRe HCe HNe HTr
      generalize nearL l at_ = PL at *
      generalize nearK at_ = kk at *
      go_loopw [14, 15] (fun v14 v15 wr' => ∃ (j : Nat) (dd : Ext), j ≤ T.length ∧ v15 = .int .i64 (j : Int) ∧ wr' = lay w [.inr dd, .inr d3, .inr d2, .inr d1] ∧ OutS (lay w [.inr dd, .inr d3, .inr d2, .inr d1]) v14 ((T.take j).foldl (addP wr l bend at_) [])) (fun _ v15 _ => T.length - (intOf v15).toNat)
      case atStart => exact ⟨0, noExt _, Nat.zero_le _, rfl, (bw_noExt _).symm, .inl ⟨rfl, rfl⟩⟩
      case round =>
        obtain ⟨j, dd, hj, rfl, rfl, hO⟩ := hrel
        by_cases hlt2 : j < T.length
        · obtain ⟨gt, tc', he, -⟩ := HT.out.form1 (by omega)
          simp only [Value.slice.injEq] at he
          obtain ⟨rfl, -, -⟩ := he
          have k0 : (lay w [.inr dd, .inr d3, .inr d2, .inr d1]).cell? ⟨gt, j, none⟩ = some (.int .i64 (nth T j)) := (ow_on (A := [.inr dd]) HT.out).cell (i := j) hlt2
          have hfj := HFo.out j hlt2
          have hfl := HFl.out j hj
          have x2 : (j : Int) < (T.length : Int) := by omega
          have HO := Lib.hid hO
          have HFj := Lib.hid hfj
          clear hO hfj
          generalize (T.take j).foldl (addP wr l bend at_) [] = R at *
          generalize nth T j = t at *
          obtain ⟨x, hx⟩ : ∃ x, frm wr t = x := ⟨_, rfl⟩
          have had : addP wr l bend at_ R t = if (permB wr x && goodB wr l bend at_ x) = true then putI x R else R := by unfold addP; rw [hx]
          have HAd := Lib.hid had
          have HPm := Lib.hid (fun W => re_permitted wr x W)
          have HMd := Lib.hid (fun W => re_mod t W)
          clear had
          cases wr
          · have hx' : x = t := hx.symm
            subst hx'
            cases hP : permB false x
            · have HST : Hid ((T.take (j + 1)).foldl (addP false l bend at_) [] = R) := Lib.hid (by rw [HFj.out, HAd.out, hP, Bool.false_and]; rfl)
              rw [hP] at HPm
              go_wp2_with (first | (go_at_call 42; refine (HMd.out _).mono ?_; rintro e w1 ⟨rfl, rfl⟩) | (go_at_call 27; refine (HPm.out _).mono ?_; rintro e w1 ⟨rfl, rfl⟩))
              go_roundw
              case rel => exact ⟨j + 1, dd, hlt2, by go_num, rfl, by rw [HST.out]; exact HO.out⟩
              case measure => simp [intOf]; omega
            · have hpb := perm_bd hP
              have hwf : (Lit.int .i64 x).wf = true := lit_bd (by omega)
              have HW := Lib.hid (fun W (h : Sl W vp PL) => re_with vp PL kk x W h hkk.2.2 (by omega) hwf)
              have hsl : (PL.set kk x).length = PL.length := List.length_set ..
              have HCn := Lib.hid (fun W vw (h : Sl W vw (PL.set kk x)) => re_Centres vw (PL.set kk x) false bend W h (giv_set HPg.out kk x hP) b0 b1)
              rw [hsl] at HCn
              have HGd := Lib.hid (HGo.out x)
              rw [hP] at HPm
              have HAd2 := Lib.hid (show addP false l bend at_ R x = if (goodB false l bend at_ x) = true then putI x R else R by rw [HAd.out, hP, Bool.true_and])
              clear hP hpb hsl
              generalize badL false (PL.set kk x) bend 1 (PL.length - 1) = BL at *
              by_cases hBL : BL = []
              · subst hBL
                have HST : Hid ((T.take (j + 1)).foldl (addP false l bend at_) [] = putI x R) := Lib.hid (by rw [HFj.out, HAd2.out, HGd.out]; rfl)
                go_wp2_with (first | (go_at_call 42; refine (HMd.out _).mono ?_; rintro e w1 ⟨rfl, rfl⟩) | (go_at_call 27; refine (HPm.out _).mono ?_; rintro e w1 ⟨rfl, rfl⟩))
                refine (HW.out _ (sl_on (A := [.inr dd, .inr d3]) (B := [.inr d2, .inr d1]) HP.out.sl)).mono ?_
                rintro e w' ⟨vw, e1, rfl, rfl, hvw⟩
                have HCn' := Lib.hid (HCn.out _ vw hvw.sl)
                rw [lay_bw] at HCn' ⊢
                clear hvw
                go_wp2_with fail
                refine HCn'.out.mono ?_
                rintro e w' ⟨vb, e2, rfl, rfl, hvb⟩
                obtain ⟨ba, bc, rfl⟩ := hvb.form
                rw [lay_bw]
                clear hvb HCn'
                have HPu := Lib.hid (re_put_any u14 R x (lay w [.inr e2, .inr e1, .inr dd, .inr d3, .inr d2, .inr d1]) (HO.out.ext (lay_below (A := [.inr e2, .inr e1]) (B := [.inr dd, .inr d3, .inr d2, .inr d1]))) (by omega) hwf)
                go_wp2_with fail
                refine HPu.out.mono ?_
                rintro e w' ⟨v5, e3, rfl, rfl, h5⟩
                rw [lay_bw] at h5 ⊢
                have H5 := Lib.hid h5
                clear h5 HPu
                go_wp2_with fail
                go_roundw
                case rel => exact ⟨j + 1, _, hlt2, by go_num, Classical.choose_spec (lay_fold w [_, _, _, _] [.inr d3, .inr d2, .inr d1]), by rw [← Classical.choose_spec (lay_fold w [_, _, _, _] [.inr d3, .inr d2, .inr d1]), HST.out]; exact H5.out⟩
                case measure => simp [intOf]; omega
              · have HST : Hid ((T.take (j + 1)).foldl (addP false l bend at_) [] = R) := Lib.hid (by rw [HFj.out, HAd2.out, HGd.out, if_neg (by simpa using hBL)])
                have hz : ((BL.length : Int) == 0) = false := beq_eq_false_iff_ne.2 (fun h => hBL (List.eq_nil_of_length_eq_zero (by omega)))
                clear hBL
                go_wp2_with (first | (go_at_call 42; refine (HMd.out _).mono ?_; rintro e w1 ⟨rfl, rfl⟩) | (go_at_call 27; refine (HPm.out _).mono ?_; rintro e w1 ⟨rfl, rfl⟩))
                refine (HW.out _ (sl_on (A := [.inr dd, .inr d3]) (B := [.inr d2, .inr d1]) HP.out.sl)).mono ?_
                rintro e w' ⟨vw, e1, rfl, rfl, hvw⟩
                have HCn' := Lib.hid (HCn.out _ vw hvw.sl)
                rw [lay_bw] at HCn' ⊢
                clear hvw
                go_wp2_with fail
                refine HCn'.out.mono ?_
                rintro e w' ⟨vb, e2, rfl, rfl, hvb⟩
                obtain ⟨ba, bc, rfl⟩ := hvb.form
                rw [lay_bw]
                clear hvb HCn'
                generalize BL.length = bq at *
                go_wp2_with fail
                go_roundw
                case rel => exact ⟨j + 1, _, hlt2, by go_num, Classical.choose_spec (lay_fold w [_, _, _] [.inr d3, .inr d2, .inr d1]), by rw [← Classical.choose_spec (lay_fold w [_, _, _] [.inr d3, .inr d2, .inr d1]), HST.out]; exact HO.out.ext (lay_below (A := [.inr e2, .inr e1]) (B := [.inr dd, .inr d3, .inr d2, .inr d1]))⟩
                case measure => simp [intOf]; omega
          · have hx' : frm true t = x := hx
            rw [hx'] at HMd
            clear hx hx'
            cases hP : permB true x
            · have HST : Hid ((T.take (j + 1)).foldl (addP true l bend at_) [] = R) := Lib.hid (by rw [HFj.out, HAd.out, hP, Bool.false_and]; rfl)
              rw [hP] at HPm
              go_wp2_with (first | (go_at_call 42; refine (HMd.out _).mono ?_; rintro e w1 ⟨rfl, rfl⟩) | (go_at_call 27; refine (HPm.out _).mono ?_; rintro e w1 ⟨rfl, rfl⟩))
              go_roundw
              case rel => exact ⟨j + 1, dd, hlt2, by go_num, rfl, by rw [HST.out]; exact HO.out⟩
              case measure => simp [intOf]; omega
            · have hpb := perm_bd hP
              have hwf : (Lit.int .i64 x).wf = true := lit_bd (by omega)
              have HW := Lib.hid (fun W (h : Sl W vp PL) => re_with vp PL kk x W h hkk.2.2 (by omega) hwf)
              have hsl : (PL.set kk x).length = PL.length := List.length_set ..
              have HCn := Lib.hid (fun W vw (h : Sl W vw (PL.set kk x)) => re_Centres vw (PL.set kk x) true bend W h (giv_set HPg.out kk x hP) b0 b1)
              rw [hsl] at HCn
              have HGd := Lib.hid (HGo.out x)
              rw [hP] at HPm
              have HAd2 := Lib.hid (show addP true l bend at_ R t = if (goodB true l bend at_ x) = true then putI x R else R by rw [HAd.out, hP, Bool.true_and])
              clear hP hpb hsl
              generalize badL true (PL.set kk x) bend 1 (PL.length - 1) = BL at *
              by_cases hBL : BL = []
              · subst hBL
                have HST : Hid ((T.take (j + 1)).foldl (addP true l bend at_) [] = putI x R) := Lib.hid (by rw [HFj.out, HAd2.out, HGd.out]; rfl)
                go_wp2_with (first | (go_at_call 42; refine (HMd.out _).mono ?_; rintro e w1 ⟨rfl, rfl⟩) | (go_at_call 27; refine (HPm.out _).mono ?_; rintro e w1 ⟨rfl, rfl⟩))
                refine (HW.out _ (sl_on (A := [.inr dd, .inr d3]) (B := [.inr d2, .inr d1]) HP.out.sl)).mono ?_
                rintro e w' ⟨vw, e1, rfl, rfl, hvw⟩
                have HCn' := Lib.hid (HCn.out _ vw hvw.sl)
                rw [lay_bw] at HCn' ⊢
                clear hvw
                go_wp2_with fail
                refine HCn'.out.mono ?_
                rintro e w' ⟨vb, e2, rfl, rfl, hvb⟩
                obtain ⟨ba, bc, rfl⟩ := hvb.form
                rw [lay_bw]
                clear hvb HCn'
                have HPu := Lib.hid (re_put_any u14 R x (lay w [.inr e2, .inr e1, .inr dd, .inr d3, .inr d2, .inr d1]) (HO.out.ext (lay_below (A := [.inr e2, .inr e1]) (B := [.inr dd, .inr d3, .inr d2, .inr d1]))) (by omega) hwf)
                go_wp2_with fail
                refine HPu.out.mono ?_
                rintro e w' ⟨v5, e3, rfl, rfl, h5⟩
                rw [lay_bw] at h5 ⊢
                have H5 := Lib.hid h5
                clear h5 HPu
                go_wp2_with fail
                go_roundw
                case rel => exact ⟨j + 1, _, hlt2, by go_num, Classical.choose_spec (lay_fold w [_, _, _, _] [.inr d3, .inr d2, .inr d1]), by rw [← Classical.choose_spec (lay_fold w [_, _, _, _] [.inr d3, .inr d2, .inr d1]), HST.out]; exact H5.out⟩
                case measure => simp [intOf]; omega
              · have HST : Hid ((T.take (j + 1)).foldl (addP true l bend at_) [] = R) := Lib.hid (by rw [HFj.out, HAd2.out, HGd.out, if_neg (by simpa using hBL)])
                have hz : ((BL.length : Int) == 0) = false := beq_eq_false_iff_ne.2 (fun h => hBL (List.eq_nil_of_length_eq_zero (by omega)))
                clear hBL
                go_wp2_with (first | (go_at_call 42; refine (HMd.out _).mono ?_; rintro e w1 ⟨rfl, rfl⟩) | (go_at_call 27; refine (HPm.out _).mono ?_; rintro e w1 ⟨rfl, rfl⟩))
                refine (HW.out _ (sl_on (A := [.inr dd, .inr d3]) (B := [.inr d2, .inr d1]) HP.out.sl)).mono ?_
                rintro e w' ⟨vw, e1, rfl, rfl, hvw⟩
                have HCn' := Lib.hid (HCn.out _ vw hvw.sl)
                rw [lay_bw] at HCn' ⊢
                clear hvw
                go_wp2_with fail
                refine HCn'.out.mono ?_
                rintro e w' ⟨vb, e2, rfl, rfl, hvb⟩
                obtain ⟨ba, bc, rfl⟩ := hvb.form
                rw [lay_bw]
                clear hvb HCn'
                generalize BL.length = bq at *
                go_wp2_with fail
                go_roundw
                case rel => exact ⟨j + 1, _, hlt2, by go_num, Classical.choose_spec (lay_fold w [_, _, _] [.inr d3, .inr d2, .inr d1]), by rw [← Classical.choose_spec (lay_fold w [_, _, _] [.inr d3, .inr d2, .inr d1]), HST.out]; exact HO.out.ext (lay_below (A := [.inr e2, .inr e1]) (B := [.inr dd, .inr d3, .inr d2, .inr d1]))⟩
                case measure => simp [intOf]; omega
        · obtain rfl : j = T.length := by omega
          rw [List.take_length] at hO
          have HO := Lib.hid hO
          clear hO
          go_wp2
          go_ret
          obtain ⟨z, hz⟩ := lay_ex w [.inr dd, .inr d3, .inr d2, .inr d1]
          exact ⟨_, z, rfl, hz, by rw [← hz, HE.out]; exact HO.out⟩
end Go.Proofs.Ytgpgfmemnhgmbaa

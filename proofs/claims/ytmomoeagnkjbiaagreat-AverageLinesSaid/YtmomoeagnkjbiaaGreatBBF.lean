/- Contracts and plain laws, several texts in one: LiA; LiB; SpA -/
import Derived.Test.YtmomoeagnkjbiaaGreatProg
import Derived.WalkKit
import Derived.WalkSpells
import Derived.WalkLawsBesides
import Derived.Lib.Hide
import Derived.BigQuiet
import Derived.Test.YtmomoeagnkjbiaaGreatBAA
import Derived.Test.YtmomoeagnkjbiaaGreatBAB
import Derived.Test.YtmomoeagnkjbiaaGreatBAF
import Derived.Test.YtmomoeagnkjbiaaGreatBAU
import Derived.Test.YtmomoeagnkjbiaaGreatBAV
import Derived.Test.YtmomoeagnkjbiaaGreatBAW
import Derived.Test.YtmomoeagnkjbiaaGreatBBE
/- The reference's residuals and the error of lists. -/
namespace Go.Proofs.YtmomoeagnkjbiaaGreat
open Go.RowKit

set_option maxHeartbeats 1000000 in
set_option maxRecDepth 100000 in
theorem r23_residuals (vt vh : Value) (t h : List Int) (n dn : Int) (w : World) (ht : Sl w vt t) (hh : Sl w vh h) (hl : t.length = h.length) (h1 : 1 ≤ t.length) (hn : t.length ≤ 1000000) (bt : Bd t 172800000) (bh : Bd h 1099511627776) (hs : SlOk n dn) :
    Calls Tryz.prog 49 #[vt, vh, (.agg #[.int .i64 (n), .int .i64 (dn)])] w (RwO w (resK t h n dn t.length)) := by
  have HR := Lib.hid (fun W i (hi : i < t.length) => r23_Residual (nth t i) (nth h i) n dn W hs (bt i hi) (bh i (by omega)))
  have HW := Lib.hid (fun i (hi : i < t.length) => resI_bd hs (bt i hi) (bh i (by omega)))
  have HK := Lib.hid (resK_succ t h n dn)
  have HL := Lib.hid (resK_len t h n dn)
  obtain ⟨b, o, cap, rfl, hc, -, hbs, hr⟩ := ht.open (by omega)
  obtain ⟨b2, o2, cap2, rfl, hc2, -, hbs2, hr2⟩ := hh.open (by omega)
  rw [← hl] at hr2 hc2 ⊢
  obtain ⟨m, hm⟩ : ∃ m, t.length = m := ⟨_, rfl⟩
  rw [hm] at HR HW hr hr2 hc hc2 h1 hn ⊢
  have HT := Lib.hid hr
  have HH := Lib.hid hr2
  have HRes : Hid (∀ k, resK t h n dn k = resK t h n dn k) := Lib.hid fun _ => rfl
  generalize resK t h n dn = RES at *
  clear hr hr2 hm hl ht hh bt bh hs HRes
  refine lay_start ?_
  go_enter Tryz.func49, Tryz.ntmps49
  go_wp2_with fail
  go_loopw [7, 8] (fun v7 v8 wr => ∃ (k : Nat) (dd : Ext), k ≤ m ∧ v8 = .int .i64 (k : Int) ∧ wr = lay w [.inr dd, .inl (.cells #[.int .i64 n, .int .i64 dn] 26 (0, 0))] ∧ Ow (lay w [.inr dd, .inl (.cells #[.int .i64 n, .int .i64 dn] 26 (0, 0))]) (lay w [.inl (.cells #[.int .i64 n, .int .i64 dn] 26 (0, 0))]).heap.size v7 (RES k)) (fun _ v8 _ => m - (intOf v8).toNat)
  case atStart => exact ⟨0, noExt _, Nat.zero_le _, rfl, (bw_noExt _).symm, by rw [show RES 0 = [] from List.eq_nil_of_length_eq_zero (HL.out 0)]; exact Ow.nil _ _⟩
  case round =>
    obtain ⟨k, dd, hk, rfl, rfl, hO⟩ := hrel
    have HO := Lib.hid hO
    clear hO
    by_cases hlt : k < m
    · have e1 := HT.out k hlt
      have e2 := HH.out k hlt
      have H1 := Lib.hid (fun W => HR.out W k hlt)
      have hwf := HW.out k hlt
      have hst := HK.out k
      have HST := Lib.hid hst
      have hlen : (RES k).length ≤ 1000000000 := by rw [HL.out]; omega
      have x1 : (k : Int) < (m : Int) := by omega
      have x0 : (0 : Int) ≤ (k : Int) := by omega
      have w3 : IntKind.i64.wrap ((k : Int) + 1) = (k : Int) + 1 := IntWalk.i64_in _ (by omega)
      obtain ⟨P, hP⟩ : ∃ P, resI (nth t k) (nth h k) n dn = P := ⟨_, rfl⟩
      rw [hP] at H1 hwf HST
      generalize nth t k = A at *
      generalize nth h k = B at *
      clear hst hP
      go_wp2_with fail
      refine region_mixT 12 [0, 0, 0, 0, 0, 0, 0, 0, 0, 0, 0, 1] (by kernel_rfl) (by kernel_rfl) (by kernel_rfl) (by kernel_rfl) (by simp) (by kernel_rfl) ?_
      simp only [List.take_succ_cons, List.take_zero, List.drop_succ_cons, List.drop_zero]
      repeat (first | (refine wpM_quiet (fun K hK => ?_); go_simp; first | (refine hK _ ?_; clear hK K) | (apply Exists.intro; refine ⟨fun _ => ?_, hK _ ?_⟩; (first | (go_at_call 58; exact bq (H1.out _) (fun d => ⟨d, rfl⟩))); clear hK K)) | (refine wpM_special (fun K hK d => ?_); go_simp; refine hK _ _ (by first | exact lay_in w [_] _ | exact lay_in w [_, _] _ | exact lay_in w [_, _, _] _ | exact lay_in w [_, _, _, _] _ | exact lay_in w [_, _, _, _, _] _ | exact lay_in w [_, _, _, _, _, _] _) ?_; clear hK K))
      refine wpM_nil ?_
      intro d1
      rw [lay_bw]
      refine push_int rfl _ _ rfl (lay w [.inl (.cells #[.int .i64 n, .int .i64 dn] 26 (0, 0))]) _ P 3 _ _ _ ?_ (ow_on (A := [_, _, _]) HO.out) ?_ rfl rfl hlen hwf ?_
      · exact lay_below (A := [_, _, _, _])
      · exact lay_get w _ 1 _ rfl
      intro v' d' hv'
      have HV := Lib.hid hv'
      clear hv'
      go_wp2_with fail
      go_roundw
      case rel => exact ⟨k + 1, d', hlt, by go_num, rfl, by rw [HST.out]; exact HV.out⟩
      case measure => simp [intOf]; omega
    · obtain rfl : k = m := by omega
      go_wp2_with fail
      go_ret
      obtain ⟨y, hy⟩ := lay_ex w [.inr dd, .inl (.cells #[.int .i64 n, .int .i64 dn] 26 (0, 0))]
      exact ⟨_, y, rfl, hy, by rw [← hy]; exact HO.out.le (lay_below (w := w) (A := [.inl (.cells #[.int .i64 n, .int .i64 dn] 26 (0, 0))]) (B := [])).size⟩
set_option maxHeartbeats 4000000 in
set_option maxRecDepth 100000 in
theorem r23_lists (vt vh : Value) (t h : List Int) (w : World) (ht : Sl w vt t) (hh : Sl w vh h) :
    Calls Tryz.prog 45 #[vt, vh] w fun e w' => e = .returned (.int .i64 (chkE t h)) ∧ ∃ d, w' = bw w d := by
  obtain ⟨a1, c1, rfl, hc1, hw1, hx1⟩ := ht
  obtain ⟨a2, c2, rfl, hc2, hw2, hx2⟩ := hh
  have HX1 := Lib.hid hx1
  have HX2 := Lib.hid hx2
  obtain ⟨m, hm⟩ : ∃ m, t.length = m := ⟨_, rfl⟩
  obtain ⟨q, hq⟩ : ∃ q, h.length = q := ⟨_, rfl⟩
  have HE := Lib.hid (And.intro hm hq)
  obtain ⟨E, hE⟩ : ∃ E, chkE t h = E := ⟨_, rfl⟩
  have HEE := Lib.hid hE
  rw [hE, hm, hq]
  clear hx1 hx2 hw1 hw2 hE hm hq
  by_cases e1 : m = q
  · subst e1
    have t1 : ((m : Int) == (m : Int)) = true := beq_iff_eq.2 rfl
    have t3 : ((m : Int) != (m : Int)) = false := by rw [bne, t1]; rfl
    by_cases e2 : m < 1
    · obtain rfl : E = 3 := by rw [← HEE.out]; unfold chkE; rw [if_pos (by have := HE.out; omega)]
      have x1 := decide_eq_true (show (m : Int) < 1 by omega)
      refine lay_start ?_
      go_enter Tryz.func45, Tryz.ntmps45
      go_wp2_with fail
      go_ret
      exact ⟨rfl, lay_ex _ _⟩
    · have x1 := decide_eq_false (show ¬ (m : Int) < 1 by omega)
      by_cases e3 : 1000 < m
      · obtain rfl : E = 3 := by rw [← HEE.out]; unfold chkE; rw [if_pos (by have := HE.out; omega)]
        have x2 := decide_eq_true (show (1000 : Int) < (m : Int) by omega)
        refine lay_start ?_
        go_enter Tryz.func45, Tryz.ntmps45
        go_wp2_with fail
        go_ret
        exact ⟨rfl, lay_ex _ _⟩
      · have x2 := decide_eq_false (show ¬ (1000 : Int) < (m : Int) by omega)
        have HE2 : Hid (E = if outB t 86400000 = true ∨ outB h 10800000 = true then 2 else 0) := Lib.hid (by rw [← HEE.out]; unfold chkE; rw [if_neg (by have := HE.out; omega)])
        obtain ⟨b1, o1, rfl, hb1, hcell1⟩ := HX1.out (by intro e; have := HE.out.1; rw [e] at this; simp at this; omega)
        obtain ⟨b2, o2, rfl, hb2, hcell2⟩ := HX2.out (by intro e; have := HE.out.2; rw [e] at this; simp at this; omega)
        rw [HE.out.1] at hcell1
        rw [HE.out.2] at hcell2
        have K1 := Lib.hid hcell1
        have K2 := Lib.hid hcell2
        clear hcell1 hcell2
        refine lay_start ?_
        go_enter Tryz.func45, Tryz.ntmps45
        go_wp2_with fail
        clear x1 x2 t1 t3
        go_loopw [5] (fun v5 wr => ∃ (i : Nat) (dd : Ext), i ≤ m ∧ v5 = .int .i64 (i : Int) ∧ wr = lay w [.inr dd] ∧ ∀ j, j < i → (-86400000 ≤ nth t j ∧ nth t j ≤ 86400000) ∧ (-10800000 ≤ nth h j ∧ nth h j ≤ 10800000)) (fun v5 _ => m - (intOf v5).toNat)
        case atStart => exact ⟨0, noExt _, Nat.zero_le _, rfl, (bw_noExt _).symm, fun j hj => absurd hj (Nat.not_lt_zero j)⟩
        case round =>
          obtain ⟨i, dd, hi, rfl, rfl, hg⟩ := hrel
          have HG := Lib.hid hg
          clear hg
          by_cases hlt : i < m
          · have k1 := K1.out i hlt
            have k2 := K2.out i hlt
            have y1 : (i : Int) < (m : Int) := by omega
            have y0 : (0 : Int) ≤ (i : Int) := by omega
            have w3 : IntKind.i64.wrap ((i : Int) + 1) = (i : Int) + 1 := IntWalk.i64_in _ (by omega)
            have HB1 : Hid (nth t i < -86400000 ∨ 86400000 < nth t i → E = 2) := Lib.hid fun e => by rw [HE2.out, if_pos (.inl (outB_out (by rw [HE.out.1]; exact hlt) e))]
            have HB2 : Hid (nth h i < -10800000 ∨ 10800000 < nth h i → E = 2) := Lib.hid fun e => by rw [HE2.out, if_pos (.inr (outB_out (by rw [HE.out.2]; exact hlt) e))]
            obtain ⟨A, hA⟩ : ∃ A, nth t i = A := ⟨_, rfl⟩
            obtain ⟨B, hB⟩ : ∃ B, nth h i = B := ⟨_, rfl⟩
            rw [hA] at k1 HB1
            rw [hB] at k2 HB2
            have HAB := Lib.hid (And.intro hA hB)
            have HLT := Lib.hid hlt
            clear hA hB
            by_cases g1 : A < -86400000
            · obtain rfl := HB1.out (.inl g1)
              have g1d := decide_eq_true g1
              go_wp2_with fail
              go_ret
              exact ⟨rfl, lay_ex _ _⟩
            have g1d := decide_eq_false g1
            by_cases g2 : 86400000 < A
            · obtain rfl := HB1.out (.inr g2)
              have g2d := decide_eq_true g2
              go_wp2_with fail
              go_ret
              exact ⟨rfl, lay_ex _ _⟩
            have g2d := decide_eq_false g2
            by_cases g3 : B < -10800000
            · obtain rfl := HB2.out (.inl g3)
              have g3d := decide_eq_true g3
              go_wp2_with fail
              go_ret
              exact ⟨rfl, lay_ex _ _⟩
            have g3d := decide_eq_false g3
            by_cases g4 : 10800000 < B
            · obtain rfl := HB2.out (.inr g4)
              have g4d := decide_eq_true g4
              go_wp2_with fail
              go_ret
              exact ⟨rfl, lay_ex _ _⟩
            have g4d := decide_eq_false g4
            have HN := Lib.hid (show (-86400000 ≤ A ∧ A ≤ 86400000) ∧ (-10800000 ≤ B ∧ B ≤ 10800000) by omega)
            clear g1 g2 g3 g4
            go_wp2_with fail
            go_roundw
            case rel => exact ⟨i + 1, dd, HLT.out, by go_num, rfl, fun j hj => by
              rcases Nat.lt_or_ge j i with h1 | h1
              · exact HG.out j h1
              · obtain rfl : j = i := by omega
                rw [HAB.out.1, HAB.out.2]; exact HN.out⟩
            case measure => have := HLT.out; simp [intOf]; omega
          · obtain rfl : i = m := by omega
            obtain rfl : E = 0 := by
              rw [HE2.out, if_neg]
              intro e
              rcases e with e | e
              · rw [outB_in (fun j hj => (HG.out j (by rw [← HE.out.1]; exact hj)).1)] at e; cases e
              · rw [outB_in (fun j hj => (HG.out j (by rw [← HE.out.2]; exact hj)).2)] at e; cases e
            go_wp2_with fail
            go_ret
            exact ⟨rfl, lay_ex _ _⟩
  · obtain rfl : E = 3 := by rw [← HEE.out]; unfold chkE; rw [if_pos (by have := HE.out; omega)]
    have t1 : ((m : Int) == (q : Int)) = false := beq_eq_false_iff_ne.2 (by omega)
    have t3 : ((m : Int) != (q : Int)) = true := by rw [bne, t1]; rfl
    refine lay_start ?_
    go_enter Tryz.func45, Tryz.ntmps45
    go_wp2_with fail
    go_ret
    exact ⟨rfl, lay_ex _ _⟩
end Go.Proofs.YtmomoeagnkjbiaaGreat
/- The reference's Residuals. -/
namespace Go.Proofs.YtmomoeagnkjbiaaGreat
open Go.RowKit

set_option maxHeartbeats 1000000 in
set_option maxRecDepth 100000 in
theorem r23_Residuals (vt vh : Value) (t h : List Int) (n d : Int) (w : World) (ht : Sl w vt t) (hh : Sl w vh h) :
    Calls Tryz.prog 20 #[vt, vh, (.agg #[.int .i64 (n), .int .i64 (d)])] w (RwE w (rsdL t h n d) (rsdE t h n d)) := by
  have HV := Lib.hid (fun W => r3_Valid n d W)
  have HC := Lib.hid (fun W (q1 : Sl W vt t) (q2 : Sl W vh h) => r23_lists vt vh t h W q1 q2)
  have HT := Lib.hid ht
  have HH := Lib.hid hh
  obtain ⟨a1, c1, hvt, -⟩ := ht
  obtain ⟨a2, c2, hvh, -⟩ := hh
  cases hf : fracB n d
  · rw [hf] at HV
    have he : rsdE t h n d = 1 := if_pos hf
    rw [rsdL_ne (by rw [he]; decide), he]
    subst hvt hvh
    clear hf he
    refine lay_start ?_
    go_enter Tryz.func20, Tryz.ntmps20
    go_wp2_with (go_at_call 13; refine (HV.out _).mono ?_; rintro e w' ⟨rfl, dA, rfl⟩)
    go_ret2
    exact rwe_nil rfl
  · rw [hf] at HV
    have hE : rsdE t h n d = if chkE t h ≠ 0 then chkE t h else if slpB n d = false then 2 else 0 := if_neg (by rw [hf]; decide)
    have hO := fracB_ok hf
    by_cases hc : chkE t h = 0
    · rw [if_neg (fun h => h hc)] at hE
      rw [hc] at HC
      have HS := Lib.hid (fun W => r23_Slope1 n d W hO)
      obtain ⟨hl, h1, hn, bt, bh⟩ := chk_bd hc
      cases hs : slpB n d
      · rw [if_pos hs] at hE
        rw [hs] at HS
        rw [rsdL_ne (by rw [hE]; decide), hE]
        subst hvt hvh
        clear hf hE hs hc bt bh hO hl h1 hn
        refine lay_start ?_
        go_enter Tryz.func20, Tryz.ntmps20
        go_wp2_with (first | (go_at_call 13; refine (HV.out _).mono ?_; rintro e w' ⟨rfl, dA, rfl⟩) | (go_at_call 45; refine (HC.out _ (HT.out.lay _) (HH.out.lay _)).mono ?_; rintro e w' ⟨rfl, dB, rfl⟩) | (go_at_call 47; refine (HS.out _).mono ?_; rintro e w' ⟨rfl, dC, rfl⟩))
        go_ret2
        exact rwe_nil rfl
      · rw [if_neg (by rw [hs]; decide)] at hE
        rw [hs] at HS
        rw [rsdL_eq hE, hE]
        have HR := Lib.hid (fun W (q1 : Sl W vt t) (q2 : Sl W vh h) => r23_residuals vt vh t h n d W q1 q2 hl h1 (by omega) (fun i hi => by have := bt i hi; omega) (fun i hi => by have := bh i hi; omega) hO)
        generalize resK t h n d t.length = RES at *
        subst hvt hvh
        clear hf hE hs hc bt bh hO hl h1 hn
        refine lay_start ?_
        go_enter Tryz.func20, Tryz.ntmps20
        go_wp2_with (first | (go_at_call 13; refine (HV.out _).mono ?_; rintro e w' ⟨rfl, dA, rfl⟩) | (go_at_call 45; refine (HC.out _ (HT.out.lay _) (HH.out.lay _)).mono ?_; rintro e w' ⟨rfl, dB, rfl⟩) | (go_at_call 47; refine (HS.out _).mono ?_; rintro e w' ⟨rfl, dC, rfl⟩))
        refine (HR.out _ (HT.out.lay _) (HH.out.lay _)).mono ?_
        rintro e w' ⟨v, dD, rfl, rfl, hv⟩
        rw [lay_bw] at hv ⊢
        have HV2 := Lib.hid hv
        clear hv
        go_wp2_with fail
        go_ret2
        obtain ⟨y, hy⟩ := lay_ex w [.inr dD, .inr dC, .inr dB, .inr dA, .inl (.cells #[.int .i64 n, .int .i64 d] 26 (0, 0))]
        exact ⟨_, y, rfl, hy, by rw [← hy]; exact HV2.out.le (lay_below (w := w) (A := [.inr dC, .inr dB, .inr dA, .inl (.cells #[.int .i64 n, .int .i64 d] 26 (0, 0))]) (B := [])).size⟩
    · rw [if_pos hc] at hE
      rw [rsdL_ne (by rw [hE]; exact hc), hE]
      have t1 : (chkE t h == 0) = false := beq_eq_false_iff_ne.2 hc
      have t2 : (chkE t h != 0) = true := by rw [bne, t1]; rfl
      subst hvt hvh
      clear hf hE hO hc
      generalize chkE t h = E at *
      refine lay_start ?_
      go_enter Tryz.func20, Tryz.ntmps20
      go_wp2_with (first | (go_at_call 13; refine (HV.out _).mono ?_; rintro e w' ⟨rfl, dA, rfl⟩) | (go_at_call 45; refine (HC.out _ (HT.out.lay _) (HH.out.lay _)).mono ?_; rintro e w' ⟨rfl, dB, rfl⟩))
      go_ret2
      exact rwe_nil rfl
end Go.Proofs.YtmomoeagnkjbiaaGreat
/- The reference's slopes: rows of pairs; insertion by quotients: plain laws. -/
namespace Go.Proofs.YtmomoeagnkjbiaaGreat
open Go.RowKit

/-- The element at a place. -/
def ntR (l : List RisB) (i : Nat) : RisB := l[i]?.getD default
theorem ntR_lt {l : List RisB} {i : Nat} (h : i < l.length) : l[i]? = some (ntR l i) := by unfold ntR; rw [List.getElem?_eq_getElem h]; rfl
def leR (x y : RisB) : Prop := risLe x.1 y.1 = true
theorem leR_tr {x y z : RisB} (h1 : leR x y) (h2 : leR y z) : leR x z := by
  have hx := x.2; have hy := y.2; have hz := z.2
  exact risLe_tr (by omega) (by omega) (by omega) h1 h2
theorem leR_of_not {x y : RisB} (h : ¬ leR x y) : leR y x := (risLe_tot x.1 y.1).resolve_left h
def InsR (l : List RisB) (i k : Nat) : Prop := ∀ a b, a < b → b ≤ i → b ≠ k → leR (ntR l a) (ntR l b)
def AscR (l : List RisB) (i : Nat) : Prop := ∀ a b, a < b → b < i → leR (ntR l a) (ntR l b)
def swpR (l : List RisB) (k : Nat) : List RisB := (l.set k (ntR l (k - 1))).set (k - 1) (ntR l k)
theorem swpR_len (l : List RisB) (k : Nat) : (swpR l k).length = l.length := by unfold swpR; simp
theorem ntR_get {l : List RisB} {i : Nat} (h : i < l.length) : ntR l i = l[i] := by unfold ntR; rw [List.getElem?_eq_getElem h]; rfl
theorem swpR_perm {l : List RisB} {k : Nat} (h : k < l.length) : (swpR l k).Perm l := by
  unfold swpR
  rw [ntR_get h, ntR_get (show k - 1 < l.length by omega)]
  exact List.set_set_perm h (by omega)
theorem ntR_set {l : List RisB} {i j : Nat} {x : RisB} (h : i < l.length) : ntR (l.set i x) j = if i = j then x else ntR l j := by
  unfold ntR
  simp only [List.getElem?_set]
  by_cases e : i = j
  · subst e; simp [h]
  · simp [e]
theorem swpR_nth {l : List RisB} {k j : Nat} (h : k < l.length) (h0 : 0 < k) : ntR (swpR l k) j = if j = k then ntR l (k - 1) else if j = k - 1 then ntR l k else ntR l j := by
  unfold swpR
  rw [ntR_set (by rw [List.length_set]; omega), ntR_set h]
  by_cases e1 : j = k
  · rw [if_pos e1, if_neg (by omega), if_pos e1.symm]
  · rw [if_neg e1]
    by_cases e2 : j = k - 1
    · rw [if_pos e2, if_pos e2.symm]
    · rw [if_neg e2, if_neg (fun h => e2 h.symm), if_neg (fun h => e1 h.symm)]
theorem InsR.start {l : List RisB} {i : Nat} (h : AscR l i) : InsR l i i := fun a b h1 h2 h3 => h a b h1 (by omega)
theorem InsR.step {l : List RisB} {i k : Nat} (h : InsR l i k) (h0 : 0 < k) (hk : k ≤ i) (hi : i < l.length) (hlt : ¬ leR (ntR l (k - 1)) (ntR l k)) : InsR (swpR l k) i (k - 1) := by
  intro a b h1 h2 h3
  have hkl : k < l.length := by omega
  rw [swpR_nth hkl h0, swpR_nth hkl h0]
  by_cases e1 : b = k
  · subst e1
    rw [if_pos rfl, if_neg (by omega)]
    by_cases e2 : a = b - 1
    · rw [if_pos e2]; exact leR_of_not hlt
    · rw [if_neg e2]; exact h a (b - 1) (by omega) (by omega) (by omega)
  · rw [if_neg e1, if_neg h3]
    by_cases e2 : a = k
    · rw [if_pos e2]; exact h (k - 1) b (by omega) h2 e1
    · rw [if_neg e2]
      by_cases e3 : a = k - 1
      · rw [if_pos e3]; exact h k b (by omega) h2 e1
      · rw [if_neg e3]; exact h a b h1 h2 e1
theorem InsR.stop {l : List RisB} {i k : Nat} (h : InsR l i k) (hk : k = 0 ∨ leR (ntR l (k - 1)) (ntR l k)) : AscR l (i + 1) := by
  intro a b h1 h2
  by_cases e : b = k
  · subst e
    rcases hk with hk | hk
    · omega
    · by_cases e2 : a = b - 1
      · subst e2; exact hk
      · exact leR_tr (h a (b - 1) (by omega) (by omega) (by omega)) hk
  · exact h a b h1 (by omega) e
theorem AscR.pair {l : List RisB} (h : AscR l l.length) : l.Pairwise fun x y => risLe x.1 y.1 = true := by
  refine List.pairwise_iff_getElem.2 fun i j hi hj hij => ?_
  have := h i j hij hj
  rw [ntR_get hi, ntR_get hj] at this
  exact this
theorem AscR.one (l : List RisB) : AscR l 1 := fun a b h1 h2 => by omega
theorem AscR.nil : AscR [] 0 := fun a b h1 h2 => by omega
/-- The rows of pairs. -/
def prR : RecT RisB := { E := 93, S := 90, k := 2, bytes := 16, enc := fun x => [.int .i64 (1000 * x.1.h), .int .i64 x.1.t], wf := fun _ => True }
theorem info_pr : (Tryz.prog.info? 93).map (fun i => (i.zero.map (fun z => z.cells.size), i.size, i.bytes)) = some (some 2, 2, 16) := by kernel_rfl
theorem prOk : RecOk prR where
  len _ := rfl
  one x u hu := by
    rcases List.mem_cons.1 hu with rfl | hu
    · rfl
    · rw [List.mem_singleton.1 hu]; rfl
  pos := by decide
  und := Tryz.underlying90
  info := by
    have h := info_pr
    cases hi : Tryz.prog.info? 93 with
    | none => rw [hi] at h; cases h
    | some i =>
      rw [hi] at h
      simp only [Option.map_some, Option.some.injEq, Prod.mk.injEq] at h
      obtain ⟨h1, h2, h3⟩ := h
      cases hz : i.zero with
      | none => rw [hz] at h1; cases h1
      | some z =>
        rw [hz] at h1
        simp only [Option.map_some, Option.some.injEq] at h1
        exact ⟨i, z, hi, hz, h2, h3, h1⟩
  small := by decide
/-- The record whose first number is another one. -/
def mixR (x y : RisB) : RisB := ⟨⟨y.1.h, x.1.t⟩, ⟨y.2.1, x.2.2⟩⟩
/-- A pair is stored over one of the row. -/
theorem owP_store {w : World} {d : Ext} {g n c base k : Nat} {L : List RisB} (e : Ext) (y : RisB) (h : OwG prR (lay w [.inr d]) base (.slice (some ⟨g, 0, none⟩) n c) L) (hg : w.heap.size ≤ g) (hk : k < L.length) :
    ∃ d1 d2, (lay w [.inr e, .inr d]).setCell ⟨g, k * 2, none⟩ (.int .i64 (1000 * y.1.h)) = lay w [.inr d1] ∧ (lay w [.inr d1]).cell? ⟨g, k * 2 + 1, none⟩ = some (.int .i64 (ntR L k).1.t) ∧ (lay w [.inr d1]).frozen? ⟨g, k * 2 + 1, none⟩ = false ∧
      (lay w [.inr d1]).setCell ⟨g, k * 2 + 1, none⟩ (.int .i64 y.1.t) = lay w [.inr d2] ∧ OwG prR (lay w [.inr d2]) base (.slice (some ⟨g, 0, none⟩) n c) (L.set k y) := by
  obtain ⟨d0, e0⟩ : ∃ x, lay w [.inr e, .inr d] = lay w [.inr x] := ⟨_, bw_bw _ _ _⟩
  have h1 := owG_on (A := [.inr e]) h
  change OwG prR (lay w [.inr e, .inr d]) base _ L at h1
  rw [e0] at h1 ⊢
  obtain ⟨d1, e1⟩ := bw_store (w := w) (d := d0) (g := g) (i := k * 2) (v := .int .i64 (1000 * y.1.h)) hg
  have e1' : (lay w [.inr d0]).setCell ⟨g, k * 2, none⟩ (.int .i64 (1000 * y.1.h)) = lay w [.inr d1] := e1
  have h2 := owG_store prOk h1 (j := 0) (x := ntR L k) (y := mixR (ntR L k) y) (u := .int .i64 (1000 * y.1.h)) (ntR_lt hk) (by decide) rfl trivial
  change OwG prR ((lay w [.inr d0]).setCell ⟨g, k * 2, none⟩ (.int .i64 (1000 * y.1.h))) _ _ _ at h2
  rw [e1'] at h2
  have hk2 : k < (L.set k (mixR (ntR L k) y)).length := by rw [List.length_set]; exact hk
  have hx2 : (L.set k (mixR (ntR L k) y))[k]? = some (mixR (ntR L k) y) := by rw [List.getElem?_set_self hk]
  have c2 := h2.cell prOk (j := 1) hx2 (u := .int .i64 (ntR L k).1.t) rfl
  obtain ⟨d2, e2⟩ := bw_store (w := w) (d := d1) (g := g) (i := k * 2 + 1) (v := .int .i64 y.1.t) hg
  have e2' : (lay w [.inr d1]).setCell ⟨g, k * 2 + 1, none⟩ (.int .i64 y.1.t) = lay w [.inr d2] := e2
  have h3 := owG_store prOk h2 (j := 1) (x := mixR (ntR L k) y) (y := y) (u := .int .i64 y.1.t) hx2 (by decide) rfl trivial
  change OwG prR ((lay w [.inr d1]).setCell ⟨g, k * 2 + 1, none⟩ (.int .i64 y.1.t)) _ _ _ at h3
  rw [e2', List.set_set] at h3
  exact ⟨d1, d2, e1', c2, h2.froz _, e2', h3⟩
end Go.Proofs.YtmomoeagnkjbiaaGreat

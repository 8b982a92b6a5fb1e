/- Contracts and plain laws, several texts in one: LnP; Rat; Av6; StP -/
import Derived.Test.YtmomoeagnkjbiaaGreatProg
import Derived.WalkKit
import Derived.WalkSpells
import Derived.WalkLawsBesides
import Derived.Lib.Hide
import Derived.BigQuiet
import Derived.Test.YtmomoeagnkjbiaaGreatCAA
import Derived.Test.YtmomoeagnkjbiaaGreatCAB
import Derived.Test.YtmomoeagnkjbiaaGreatCAC
import Derived.Test.YtmomoeagnkjbiaaGreatCAH
import Derived.Test.YtmomoeagnkjbiaaGreatCAL
/- average.Line: the quotients of all pairs, the lower median of them: the plain law. -/
namespace Go.Proofs.YtmomoeagnkjbiaaGreat
open Go.RowKit

def mkR (h t : Int) : RisB := if c : (-21600000 ≤ h ∧ h ≤ 21600000) ∧ 1 ≤ t ∧ t ≤ 172800000 then (show RisB from ⟨⟨h, t⟩, c⟩) else default
theorem mkR_h {h t : Int} (c : (-21600000 ≤ h ∧ h ≤ 21600000) ∧ 1 ≤ t ∧ t ≤ 172800000) : (mkR h t).1 = ⟨h, t⟩ := by
  unfold mkR
  split
  · rfl
  · contradiction
/-- The quotient of a pair, if there is one. -/
def rp (t h : List Int) (i k : Nat) : List RisB :=
  if 0 < nth t i - nth t k then [mkR (nth h i - nth h k) (nth t i - nth t k)]
  else if nth t i - nth t k < 0 then [mkR (nth h k - nth h i) (-(nth t i - nth t k))] else []
def risRow (t h : List Int) (i : Nat) : Nat → List RisB
  | 0 => []
  | k + 1 => risRow t h i k ++ rp t h i k
def risAll (t h : List Int) : Nat → List RisB
  | 0 => []
  | i + 1 => risAll t h i ++ risRow t h i i
theorem rp_len (t h : List Int) (i k : Nat) : (rp t h i k).length ≤ 1 := by
  unfold rp
  split
  · simp
  · split <;> simp
theorem risRow_len (t h : List Int) (i : Nat) : ∀ k, (risRow t h i k).length ≤ k
  | 0 => Nat.le_refl _
  | k + 1 => by
    have h1 := risRow_len t h i k
    have h2 := rp_len t h i k
    show (risRow t h i k ++ rp t h i k).length ≤ _
    rw [List.length_append]; omega
theorem risAll_len (t h : List Int) : ∀ i, (risAll t h i).length ≤ i * i
  | 0 => Nat.le_refl _
  | i + 1 => by
    have h1 := risAll_len t h i
    have h2 := risRow_len t h i i
    show (risAll t h i ++ risRow t h i i).length ≤ _
    rw [List.length_append, Nat.succ_mul, Nat.mul_succ]; omega
def srtR (l : List RisB) : List RisB := l.mergeSort fun x y => risLe x.1 y.1
theorem srtR_perm (l : List RisB) : (srtR l).Perm l := List.mergeSort_perm l _
theorem srtR_len (l : List RisB) : (srtR l).length = l.length := List.length_mergeSort l
theorem srtR_pair (l : List RisB) : (srtR l).Pairwise fun x y => risLe x.1 y.1 = true := by
  refine List.pairwise_mergeSort (le := fun x y : RisB => risLe x.1 y.1) (fun a b c h1 h2 => ?_) (fun a b => ?_) l
  · have ha := a.2; have hb := b.2; have hc := c.2
    exact risLe_tr (by omega) (by omega) (by omega) h1 h2
  · rcases risLe_tot a.1 b.1 with h | h <;> simp [h]
/-- The lower median of the quotients. -/
def lnP (l : List RisB) : RisV := ((srtR l)[(l.length - 1) / 2]?.getD default).1
/-- Whichever way the list was sorted: the same fraction. -/
theorem lnP_any {l l' : List RisB} {x : RisB} (hp : l'.Perm l) (hs : l'.Pairwise fun x y => risLe x.1 y.1 = true) (hx : l'[(l.length - 1) / 2]? = some x) :
    mkN (1000 * x.1.h) x.1.t = mkN (1000 * (lnP l).h) (lnP l).t ∧ mkD (1000 * x.1.h) x.1.t = mkD (1000 * (lnP l).h) (lnP l).t ∧ mkBig (1000 * x.1.h) x.1.t = mkBig (1000 * (lnP l).h) (lnP l).t := by
  obtain ⟨hk, e⟩ := List.getElem?_eq_some_iff.1 hx
  have hk2 : (l.length - 1) / 2 < (srtR l).length := by rw [srtR_len]; have := hp.length_eq; omega
  have hq := kth_quot (a := l'.map (·.1)) (b := (srtR l).map (·.1)) (k := (l.length - 1) / 2) (fun y hy => by
      obtain ⟨z, _, rfl⟩ := List.mem_map.1 hy
      have := z.2; omega) (List.pairwise_map.2 hs) (List.pairwise_map.2 (srtR_pair l)) ((hp.trans (srtR_perm l).symm).map _) (by simpa using hk) (by simpa using hk2)
  simp only [List.getElem_map] at hq
  have e2 : lnP l = ((srtR l)[(l.length - 1) / 2]).1 := by unfold lnP; rw [List.getElem?_eq_getElem hk2]; rfl
  rw [e2, ← e]
  have h1 := (l'[(l.length - 1) / 2]).2
  have h2 := ((srtR l)[(l.length - 1) / 2]).2
  refine mk_same (by omega) (by omega) ?_
  rw [Int.mul_assoc, Int.mul_assoc, hq]
/-- Line's error, slope, level. -/
def lnE (t h : List Int) : Int := if chkE t h ≠ 0 then chkE t h else if risAll t h t.length = [] then 12
  else if mkBig (1000 * (lnP (risAll t h t.length)).h) (lnP (risAll t h t.length)).t = true ∨ slpB (mkN (1000 * (lnP (risAll t h t.length)).h) (lnP (risAll t h t.length)).t) (mkD (1000 * (lnP (risAll t h t.length)).h) (lnP (risAll t h t.length)).t) = false then 5 else 0
def lnN (t h : List Int) : Int := if lnE t h = 0 then mkN (1000 * (lnP (risAll t h t.length)).h) (lnP (risAll t h t.length)).t else 0
def lnD (t h : List Int) : Int := if lnE t h = 0 then mkD (1000 * (lnP (risAll t h t.length)).h) (lnP (risAll t h t.length)).t else 0
def lnK (t h : List Int) : Int := if lnE t h = 0 then medI (resK t h (lnN t h) (lnD t h) t.length) else 0
theorem ite_bd (c : Bool) {x : Nat} (h : x ≤ 1073741824) : -1073741824 ≤ (if c = true then -(x : Int) else (x : Int)) ∧ (if c = true then -(x : Int) else (x : Int)) ≤ 1073741824 := by
  cases c <;> simp <;> omega
theorem mk_ok {a b : Int} (hb : 1 ≤ b) (h : mkBig a b = false) : SlOk (mkN a b) (mkD a b) := by
  unfold mkBig at h
  simp only [Bool.or_eq_false_iff, decide_eq_false_iff_not] at h
  have hd : 1 ≤ b.natAbs / Nat.gcd a.natAbs b.natAbs := by
    have hg : 0 < Nat.gcd a.natAbs b.natAbs := Nat.gcd_pos_of_pos_right _ (by omega)
    exact (Nat.one_le_div_iff hg).2 (Nat.gcd_le_right _ (by omega))
  have hn : -1073741824 ≤ mkN a b ∧ mkN a b ≤ 1073741824 := by
    unfold mkN
    exact ite_bd _ (by omega)
  exact ⟨hn.1, hn.2, by unfold mkD; omega, by unfold mkD; omega⟩
theorem chk_bd {t h : List Int} (hc : chkE t h = 0) : t.length = h.length ∧ 1 ≤ t.length ∧ t.length ≤ 1000 ∧ Bd t 86400000 ∧ Bd h 10800000 := by
  unfold chkE at hc
  by_cases c1 : t.length ≠ h.length ∨ t.length < 1 ∨ 1000 < t.length
  · rw [if_pos c1] at hc; cases hc
  · rw [if_neg c1] at hc
    by_cases c2 : outB t 86400000 = true ∨ outB h 10800000 = true
    · rw [if_pos c2] at hc; cases hc
    · have e1 : outB t 86400000 = false := by cases e : outB t 86400000; rfl; exact absurd (.inl e) c2
      have e2 : outB h 10800000 = false := by cases e : outB h 10800000; rfl; exact absurd (.inr e) c2
      exact ⟨by omega, by omega, by omega, outB_bd e1, outB_bd e2⟩
end Go.Proofs.YtmomoeagnkjbiaaGreat
/- ratio: gcd, size, Make. -/
namespace Go.Proofs.YtmomoeagnkjbiaaGreat
open Go.RowKit

set_option maxHeartbeats 400000 in
theorem rt_size (n : Int) (w : World) (h1 : -4611686018427387904 ≤ n) (h2 : n ≤ 4611686018427387904) :
    Calls Tryz.prog 79 #[.int .i64 n] w fun e w' => e = .returned (.int .u64 (n.natAbs : Int)) ∧ ∃ d, w' = bw w d := by
  by_cases hn : n < 0
  · have k1 : IntKind.u64.wrap n = n + 18446744073709551616 := by rw [IntKind.wrap_u64]; omega
    obtain ⟨X, hX⟩ : ∃ X, n + 18446744073709551616 = X := ⟨_, rfl⟩
    obtain ⟨Y, hY⟩ : ∃ Y : Int, ((n.natAbs : Nat) : Int) = Y := ⟨_, rfl⟩
    have k2 : IntKind.u64.wrap (-X) = Y := by rw [IntKind.wrap_u64]; omega
    have k3 : IntKind.u64.wrap X = X := IntWalk.u64_in _ (by omega)
    rw [hX] at k1
    rw [hY]
    clear hX hY
    refine lay_start ?_
    go_enter Tryz.func79, Tryz.ntmps79
    go_wp2_with fail
    go_ret
    exact ⟨rfl, lay_ex _ _⟩
  · have k1 : IntKind.u64.wrap n = n := IntWalk.u64_in _ (by omega)
    rw [show ((n.natAbs : Nat) : Int) = n by omega]
    refine lay_start ?_
    go_enter Tryz.func79, Tryz.ntmps79
    go_wp2_with fail
    go_ret
    exact ⟨rfl, lay_ex _ _⟩
set_option maxHeartbeats 1000000 in
set_option maxRecDepth 100000 in
theorem rt_gcd (a b : Nat) (w : World) (ha : a < 18446744073709551616) (hb : b < 18446744073709551616) :
    Calls Tryz.prog 80 #[.int .u64 (a : Int), .int .u64 (b : Int)] w fun e w' => e = .returned (.int .u64 ((Nat.gcd a b : Nat) : Int)) ∧ ∃ d, w' = bw w d := by
  obtain ⟨G, hG⟩ : ∃ G, Nat.gcd a b = G := ⟨_, rfl⟩
  rw [hG]
  refine lay_start ?_
  go_enter Tryz.func80, Tryz.ntmps80
  go_wp2_with fail
  go_loopw [0, 1] (fun v0 v1 wr => ∃ (x y : Nat) (dd : Ext), x < 18446744073709551616 ∧ y < 18446744073709551616 ∧ v0 = .int .u64 (x : Int) ∧ v1 = .int .u64 (y : Int) ∧ wr = lay w [.inr dd] ∧ Nat.gcd x y = G) (fun _ v1 _ => (intOf v1).toNat)
  case atStart => exact ⟨a, b, noExt _, ha, hb, rfl, rfl, (bw_noExt _).symm, hG⟩
  case round =>
    obtain ⟨x, y, dd, hx, hy, rfl, rfl, rfl, hg⟩ := hrel
    by_cases hy0 : y = 0
    · subst hy0
      have hgx : x = G := by rw [← hg, Nat.gcd_zero_right]
      clear hg hG
      go_wp2_with fail
      go_ret
      exact ⟨by rw [← hgx]; rfl, lay_ex _ _⟩
    · have t1 : ((y : Int) == 0) = false := beq_eq_false_iff_ne.2 (by omega)
      have t2 : ((y : Int) != 0) = true := by rw [bne, t1]; rfl
      have t3 : (y : Int) ≠ 0 := by omega
      obtain ⟨r, hr⟩ : ∃ r, x % y = r := ⟨_, rfl⟩
      have hrb : r < y := by rw [← hr]; exact Nat.mod_lt _ (by omega)
      have k1 : ((x : Int).tmod (y : Int)) = (r : Int) := by rw [← hr, Int.tmod_eq_emod_of_nonneg (by omega)]; omega
      have k2 : IntKind.u64.wrap (r : Int) = (r : Int) := IntWalk.u64_in _ (by omega)
      have k3 : ((x : Int) % (y : Int)) = (r : Int) := by rw [← hr]; omega
      have HG := Lib.hid (show Nat.gcd y r = G by rw [← hg, ← hr, Nat.gcd_comm y, ← Nat.gcd_rec, Nat.gcd_comm])
      have HR := Lib.hid hrb
      clear hr hg hG hrb
      go_wp2_with fail
      refine region_bw (by kernel_rfl) (by kernel_rfl) ?_
      repeat (go_big_quiet_step ((first | fail)))
      refine wpQuiet_nil ?_
      rintro w' ⟨d, rfl⟩
      rw [lay_bw]
      obtain ⟨d3, e3⟩ : ∃ x, lay w [.inr d, .inr dd] = lay w [.inr x] := ⟨_, bw_bw _ _ _⟩
      rw [e3]
      clear e3
      go_wp2_with fail
      go_roundw
      case rel => exact ⟨y, r, d3, by omega, by have := HR.out; omega, rfl, rfl, rfl, HG.out⟩
      case measure => have := HR.out; simp [intOf]; omega
/-- The fraction that is made: error, numerator, denominator. -/
def mkE (a b : Int) : Int := if b = 0 then 16 else if mkBig a b = true then 5 else 0
def mkNN (a b : Int) : Int := if mkE a b = 0 then mkN a b else 0
def mkDD (a b : Int) : Int := if mkE a b = 0 then mkD a b else 0
set_option maxHeartbeats 2000000 in
set_option maxRecDepth 100000 in
theorem rt_Make (a b : Int) (w : World) (ha : -4611686018427387904 ≤ a ∧ a ≤ 4611686018427387904) (hb : -4611686018427387904 ≤ b ∧ b ≤ 4611686018427387904) :
    Calls Tryz.prog 32 #[.int .i64 a, .int .i64 b] w fun e w' => e = .returned (.tuple #[(.agg #[.int .i64 (mkNN a b), .int .i64 (mkDD a b)]), .int .i64 (mkE a b)]) ∧ ∃ d, w' = bw w d := by
  by_cases hb0 : b = 0
  · subst hb0
    have e1 : mkE a 0 = 16 := if_pos rfl
    unfold mkNN mkDD
    rw [e1, if_neg (by decide), if_neg (by decide)]
    refine lay_start ?_
    go_enter Tryz.func32, Tryz.ntmps32
    go_wp2_with fail
    exact bodyPost_ret (v := .tuple #[(.agg #[.int .i64 (0), .int .i64 (0)]), .int .i64 16]) (by simp [results, Tryz.results32, go_sem]) rfl ⟨rfl, lay_ex _ _⟩
  · have HA := Lib.hid (fun W => rt_size a W ha.1 ha.2)
    have HB := Lib.hid (fun W => rt_size b W hb.1 hb.2)
    have t1 : (b == 0) = false := beq_eq_false_iff_ne.2 hb0
    obtain ⟨p, hp⟩ : ∃ p, a.natAbs = p := ⟨_, rfl⟩
    obtain ⟨q, hq⟩ : ∃ q, b.natAbs = q := ⟨_, rfl⟩
    have hpb : p ≤ 4611686018427387904 := by omega
    have hqb : 1 ≤ q ∧ q ≤ 4611686018427387904 := by omega
    have HG := Lib.hid (fun W => rt_gcd p q W (by omega) (by omega))
    obtain ⟨g, hg⟩ : ∃ g, Nat.gcd p q = g := ⟨_, rfl⟩
    have hg0 : 1 ≤ g := by rw [← hg]; exact Nat.gcd_pos_of_pos_right _ (by omega)
    have hgq : g ≤ q := by rw [← hg]; exact Nat.gcd_le_right _ (by omega)
    obtain ⟨x, hx⟩ : ∃ x, p / g = x := ⟨_, rfl⟩
    obtain ⟨y, hy⟩ : ∃ y, q / g = y := ⟨_, rfl⟩
    have hxb : x ≤ 4611686018427387904 := by rw [← hx]; exact Nat.le_trans (Nat.div_le_self _ _) hpb
    have hyb : y ≤ 4611686018427387904 := by rw [← hy]; exact Nat.le_trans (Nat.div_le_self _ _) hqb.2
    have eN : mkN a b = if decide (a < 0) != decide (b < 0) then -(x : Int) else (x : Int) := by unfold mkN; rw [hp, hq, hg, hx]
    have eD : mkD a b = (y : Int) := by unfold mkD; rw [hp, hq, hg, hy]
    have eB : mkBig a b = (decide (1073741824 < x) || decide (1073741824 < y)) := by unfold mkBig; rw [hp, hq, hg, hx, hy]
    rw [hg] at HG
    rw [hp] at HA
    rw [hq] at HB
    have k0 : (g : Int) ≠ 0 := by omega
    have k00 : g ≠ 0 := by omega
    have k1 : (p : Int).tdiv (g : Int) = (x : Int) := by rw [Int.tdiv_eq_ediv_of_nonneg (by omega), ← hx]; omega
    have k2 : (q : Int).tdiv (g : Int) = (y : Int) := by rw [Int.tdiv_eq_ediv_of_nonneg (by omega), ← hy]; omega
    have k3 : IntKind.u64.wrap (x : Int) = (x : Int) := IntWalk.u64_in _ (by omega)
    have k4 : IntKind.u64.wrap (y : Int) = (y : Int) := IntWalk.u64_in _ (by omega)
    have k5 : IntKind.i64.wrap (x : Int) = (x : Int) := IntWalk.i64_in _ (by omega)
    have k6 : IntKind.i64.wrap (y : Int) = (y : Int) := IntWalk.i64_in _ (by omega)
    have k7 : IntKind.i64.wrap (-(x : Int)) = -(x : Int) := IntWalk.i64_in _ (by omega)
    have eE : mkE a b = if mkBig a b = true then 5 else 0 := if_neg hb0
    unfold mkNN mkDD
    rw [eE, eN, eD, eB]
    clear eE eN eD eB hx hy hg hp hq hxb hyb hgq hg0 hpb hqb ha hb
    by_cases c1 : 1073741824 < x
    · rw [decide_eq_true c1, Bool.true_or, if_pos rfl, if_neg (by decide), if_neg (by decide)]
      have c1' : (1073741824 : Int) < (x : Int) := by omega
      refine lay_start ?_
      go_enter Tryz.func32, Tryz.ntmps32
      go_wp2_with (first | (go_at_call 79; first | (with_reducible refine (HA.out _).mono ?_; rintro e w' ⟨rfl, dA, rfl⟩) | (with_reducible refine (HB.out _).mono ?_; rintro e w' ⟨rfl, dB, rfl⟩)) | (go_at_call 80; refine (HG.out _).mono ?_; rintro e w' ⟨rfl, dC, rfl⟩))
      refine region_bw (by kernel_rfl) (by kernel_rfl) ?_
      repeat (go_big_quiet_step ((first | fail)))
      refine wpQuiet_nil ?_
      rintro w' ⟨d, rfl⟩
      rw [lay_bw]
      go_wp2_with fail
      exact bodyPost_ret (v := .tuple #[(.agg #[.int .i64 (0), .int .i64 (0)]), .int .i64 5]) (by simp [results, Tryz.results32, go_sem]) rfl ⟨rfl, lay_ex _ _⟩
    · have c1' : ¬ (1073741824 : Int) < (x : Int) := by omega
      by_cases c2 : 1073741824 < y
      · rw [decide_eq_false c1, decide_eq_true c2, Bool.false_or, if_pos rfl, if_neg (by decide), if_neg (by decide)]
        have c2' : (1073741824 : Int) < (y : Int) := by omega
        refine lay_start ?_
        go_enter Tryz.func32, Tryz.ntmps32
        go_wp2_with (first | (go_at_call 79; first | (with_reducible refine (HA.out _).mono ?_; rintro e w' ⟨rfl, dA, rfl⟩) | (with_reducible refine (HB.out _).mono ?_; rintro e w' ⟨rfl, dB, rfl⟩)) | (go_at_call 80; refine (HG.out _).mono ?_; rintro e w' ⟨rfl, dC, rfl⟩))
        refine region_bw (by kernel_rfl) (by kernel_rfl) ?_
        repeat (go_big_quiet_step ((first | fail)))
        refine wpQuiet_nil ?_
        rintro w' ⟨d, rfl⟩
        rw [lay_bw]
        go_wp2_with fail
        exact bodyPost_ret (v := .tuple #[(.agg #[.int .i64 (0), .int .i64 (0)]), .int .i64 5]) (by simp [results, Tryz.results32, go_sem]) rfl ⟨rfl, lay_ex _ _⟩
      · have c2' : ¬ (1073741824 : Int) < (y : Int) := by omega
        rw [decide_eq_false c1, decide_eq_false c2]
        simp only [Bool.false_or, Bool.false_eq_true, ↓reduceIte]
        by_cases s1 : a < 0
        · by_cases s2 : b < 0
          · rw [decide_eq_true s1, decide_eq_true s2, if_neg (by decide)]
            have d1 := decide_eq_true s1
            have d2 := decide_eq_true s2
            refine lay_start ?_
            go_enter Tryz.func32, Tryz.ntmps32
            go_wp2_with (first | (go_at_call 79; first | (with_reducible refine (HA.out _).mono ?_; rintro e w' ⟨rfl, dA, rfl⟩) | (with_reducible refine (HB.out _).mono ?_; rintro e w' ⟨rfl, dB, rfl⟩)) | (go_at_call 80; refine (HG.out _).mono ?_; rintro e w' ⟨rfl, dC, rfl⟩))
            refine region_bw (by kernel_rfl) (by kernel_rfl) ?_
            repeat (go_big_quiet_step ((first | fail)))
            refine wpQuiet_nil ?_
            rintro w' ⟨d, rfl⟩
            rw [lay_bw]
            go_wp2_with fail
            exact bodyPost_ret (v := .tuple #[(.agg #[.int .i64 ((x : Int)), .int .i64 ((y : Int))]), .int .i64 0]) (by simp [results, Tryz.results32, go_sem]) rfl ⟨rfl, lay_ex _ _⟩
          · rw [decide_eq_true s1, decide_eq_false s2, if_pos (by decide)]
            have d1 := decide_eq_true s1
            have d2 := decide_eq_false s2
            refine lay_start ?_
            go_enter Tryz.func32, Tryz.ntmps32
            go_wp2_with (first | (go_at_call 79; first | (with_reducible refine (HA.out _).mono ?_; rintro e w' ⟨rfl, dA, rfl⟩) | (with_reducible refine (HB.out _).mono ?_; rintro e w' ⟨rfl, dB, rfl⟩)) | (go_at_call 80; refine (HG.out _).mono ?_; rintro e w' ⟨rfl, dC, rfl⟩))
            refine region_bw (by kernel_rfl) (by kernel_rfl) ?_
            repeat (go_big_quiet_step ((first | fail)))
            refine wpQuiet_nil ?_
            rintro w' ⟨d, rfl⟩
            rw [lay_bw]
            go_wp2_with fail
            exact bodyPost_ret (v := .tuple #[(.agg #[.int .i64 (-(x : Int)), .int .i64 ((y : Int))]), .int .i64 0]) (by simp [results, Tryz.results32, go_sem]) rfl ⟨rfl, lay_ex _ _⟩
        · by_cases s2 : b < 0
          · rw [decide_eq_false s1, decide_eq_true s2, if_pos (by decide)]
            have d1 := decide_eq_false s1
            have d2 := decide_eq_true s2
            refine lay_start ?_
            go_enter Tryz.func32, Tryz.ntmps32
            go_wp2_with (first | (go_at_call 79; first | (with_reducible refine (HA.out _).mono ?_; rintro e w' ⟨rfl, dA, rfl⟩) | (with_reducible refine (HB.out _).mono ?_; rintro e w' ⟨rfl, dB, rfl⟩)) | (go_at_call 80; refine (HG.out _).mono ?_; rintro e w' ⟨rfl, dC, rfl⟩))
            refine region_bw (by kernel_rfl) (by kernel_rfl) ?_
            repeat (go_big_quiet_step ((first | fail)))
            refine wpQuiet_nil ?_
            rintro w' ⟨d, rfl⟩
            rw [lay_bw]
            go_wp2_with fail
            exact bodyPost_ret (v := .tuple #[(.agg #[.int .i64 (-(x : Int)), .int .i64 ((y : Int))]), .int .i64 0]) (by simp [results, Tryz.results32, go_sem]) rfl ⟨rfl, lay_ex _ _⟩
          · rw [decide_eq_false s1, decide_eq_false s2, if_neg (by decide)]
            have d1 := decide_eq_false s1
            have d2 := decide_eq_false s2
            refine lay_start ?_
            go_enter Tryz.func32, Tryz.ntmps32
            go_wp2_with (first | (go_at_call 79; first | (with_reducible refine (HA.out _).mono ?_; rintro e w' ⟨rfl, dA, rfl⟩) | (with_reducible refine (HB.out _).mono ?_; rintro e w' ⟨rfl, dB, rfl⟩)) | (go_at_call 80; refine (HG.out _).mono ?_; rintro e w' ⟨rfl, dC, rfl⟩))
            refine region_bw (by kernel_rfl) (by kernel_rfl) ?_
            repeat (go_big_quiet_step ((first | fail)))
            refine wpQuiet_nil ?_
            rintro w' ⟨d, rfl⟩
            rw [lay_bw]
            go_wp2_with fail
            exact bodyPost_ret (v := .tuple #[(.agg #[.int .i64 ((x : Int)), .int .i64 ((y : Int))]), .int .i64 0]) (by simp [results, Tryz.results32, go_sem]) rfl ⟨rfl, lay_ex _ _⟩
end Go.Proofs.YtmomoeagnkjbiaaGreat
/- average.Line. -/
namespace Go.Proofs.YtmomoeagnkjbiaaGreat
open Go.RowKit

theorem lnE_chk {t h : List Int} (hc : chkE t h ≠ 0) : lnE t h = chkE t h := if_pos hc
theorem ln_bad {t h : List Int} (hc : lnE t h ≠ 0) : lnN t h = 0 ∧ lnD t h = 0 ∧ lnK t h = 0 := ⟨if_neg hc, if_neg hc, if_neg hc⟩
theorem rp_pos {t h : List Int} {i k : Nat} (c : 0 < nth t i - nth t k) : rp t h i k = [mkR (nth h i - nth h k) (nth t i - nth t k)] := if_pos c
theorem rp_neg {t h : List Int} {i k : Nat} (c : nth t i - nth t k < 0) : rp t h i k = [mkR (nth h k - nth h i) (-(nth t i - nth t k))] := by
  unfold rp; rw [if_neg (by omega), if_pos c]
theorem rp_nil {t h : List Int} {i k : Nat} (c1 : ¬ 0 < nth t i - nth t k) (c2 : ¬ nth t i - nth t k < 0) : rp t h i k = [] := by
  unfold rp; rw [if_neg c1, if_neg c2]
/-- What Line answers, case by case. -/
theorem ln_cases (t h : List Int) (c0 : chkE t h = 0) :
    (risAll t h t.length = [] → lnN t h = 0 ∧ lnD t h = 0 ∧ lnK t h = 0 ∧ lnE t h = 12) ∧
    (∀ (l' : List RisB) (x : RisB), l'.Perm (risAll t h t.length) → l'.Pairwise (fun x y => risLe x.1 y.1 = true) → l'[((risAll t h t.length).length - 1) / 2]? = some x →
      ((mkBig (1000 * x.1.h) x.1.t = true ∨ slpB (mkN (1000 * x.1.h) x.1.t) (mkD (1000 * x.1.h) x.1.t) = false) → lnN t h = 0 ∧ lnD t h = 0 ∧ lnK t h = 0 ∧ lnE t h = 5) ∧
      (mkBig (1000 * x.1.h) x.1.t = false → slpB (mkN (1000 * x.1.h) x.1.t) (mkD (1000 * x.1.h) x.1.t) = true → lnN t h = mkN (1000 * x.1.h) x.1.t ∧ lnD t h = mkD (1000 * x.1.h) x.1.t ∧ lnK t h = medI (resK t h (mkN (1000 * x.1.h) x.1.t) (mkD (1000 * x.1.h) x.1.t) t.length) ∧ lnE t h = 0)) := by
  have hE : lnE t h = if risAll t h t.length = [] then 12
      else if mkBig (1000 * (lnP (risAll t h t.length)).h) (lnP (risAll t h t.length)).t = true ∨ slpB (mkN (1000 * (lnP (risAll t h t.length)).h) (lnP (risAll t h t.length)).t) (mkD (1000 * (lnP (risAll t h t.length)).h) (lnP (risAll t h t.length)).t) = false then 5 else 0 := if_neg (fun h => h c0)
  refine ⟨fun h0 => ?_, fun l' x hp hs hx => ?_⟩
  · have e : lnE t h = 12 := by rw [hE, if_pos h0]
    obtain ⟨n1, n2, n3⟩ := ln_bad (t := t) (h := h) (by rw [e]; decide)
    exact ⟨n1, n2, n3, e⟩
  · have hne : risAll t h t.length ≠ [] := by
      intro e
      rw [e] at hp
      rw [hp.eq_nil] at hx
      simp at hx
    obtain ⟨k1, k2, k3⟩ := lnP_any hp hs hx
    rw [if_neg hne, ← k1, ← k2, ← k3] at hE
    refine ⟨fun hc => ?_, fun c1 c2 => ?_⟩
    · have e : lnE t h = 5 := by rw [hE, if_pos hc]
      obtain ⟨n1, n2, n3⟩ := ln_bad (t := t) (h := h) (by rw [e]; decide)
      exact ⟨n1, n2, n3, e⟩
    · have e : lnE t h = 0 := by rw [hE, if_neg (by rw [c1, c2]; decide)]
      have a1 : lnN t h = mkN (1000 * x.1.h) x.1.t := by unfold lnN; rw [if_pos e, k1]
      have a2 : lnD t h = mkD (1000 * x.1.h) x.1.t := by unfold lnD; rw [if_pos e, k2]
      refine ⟨a1, a2, ?_, e⟩
      unfold lnK
      rw [if_pos e, a1, a2]
set_option maxHeartbeats 4000000 in
set_option maxRecDepth 100000 in
theorem av_Line (vt vh : Value) (t h : List Int) (w : World) (ht : Sl w vt t) (hh : Sl w vh h) :
    Calls Tryz.prog 17 #[vt, vh] w fun e w' => e = .returned (.tuple #[(.agg #[.int .i64 (lnN t h), .int .i64 (lnD t h)]), .int .i64 (lnK t h), .int .i64 (lnE t h)]) ∧ ∃ d, w' = bw w d := by
  have HC := Lib.hid (fun W (q1 : Sl W vt t) (q2 : Sl W vh h) => av_check vt vh t h W q1 q2)
  have HT := Lib.hid ht
  have HH := Lib.hid hh
  by_cases c0 : chkE t h = 0
  · obtain ⟨hl, h1, hn, bt, bh⟩ := chk_bd c0
    rw [c0] at HC
    have HB := Lib.hid (And.intro bt bh)
    have HLl := Lib.hid (risAll_len t h t.length)
    have HF := Lib.hid (ln_cases t h c0)
    have HAs := Lib.hid (fun i => show risAll t h (i + 1) = risAll t h i ++ risRow t h i i from rfl)
    obtain ⟨b, o, cap, rfl, hc, -, hbs, hr⟩ := ht.open (by omega)
    obtain ⟨b2, o2, cap2, rfl, hc2, -, hbs2, hr2⟩ := hh.open (by omega)
    have HRs := Lib.hid (fun W v1 v2 n d (q1 : Sl W v1 t) (q2 : Sl W v2 h) hs => av_residuals v1 v2 t h n d W q1 q2 hl h1 (by omega) (fun i hi => by have := bt i hi; omega) (fun i hi => by have := bh i hi; omega) hs)
    rw [← hl] at hr2 hc2 HH HC ⊢
    obtain ⟨m, hm⟩ : ∃ m, t.length = m := ⟨_, rfl⟩
    have hml : h.length = m := by omega
    have HM := Lib.hid (And.intro hm hml)
    rw [hm] at hr hr2 hc hc2 h1 hn HT HH HC HLl HRs HF ⊢
    obtain ⟨eN, hN⟩ : ∃ z, lnN t h = z := ⟨_, rfl⟩
    obtain ⟨eD, hD⟩ : ∃ z, lnD t h = z := ⟨_, rfl⟩
    obtain ⟨eK, hK⟩ : ∃ z, lnK t h = z := ⟨_, rfl⟩
    obtain ⟨eE, hE⟩ : ∃ z, lnE t h = z := ⟨_, rfl⟩
    rw [hN, hD, hK, hE] at HF ⊢
    have HTc := Lib.hid hr
    have HHc := Lib.hid hr2
    clear hr hr2 hm hl ht hh bt bh c0 hml hN hD hK hE
    refine lay_start ?_
    go_enter Tryz.func17, Tryz.ntmps17
    go_wp2_with (go_at_call 38; refine (HC.out _ (HT.out.lay _) (HH.out.lay _)).mono ?_; rintro e w' ⟨rfl, dA, rfl⟩)
    go_loopw [8, 24] (fun v8 v24 wr => ∃ (i : Nat) (dd : Ext), i ≤ m ∧ v24 = .int .i64 (i : Int) ∧ wr = lay w [.inr dd, .inl (.cells #[.int .i64 0, .int .i64 0] 26 (0, 0))] ∧ OwG riR (lay w [.inr dd, .inl (.cells #[.int .i64 0, .int .i64 0] 26 (0, 0))]) (lay w [.inl (.cells #[.int .i64 0, .int .i64 0] 26 (0, 0))]).heap.size v8 (risAll t h i)) (fun _ v24 _ => m - (intOf v24).toNat)
    case atStart => exact ⟨0, dA, Nat.zero_le _, rfl, rfl, OwG.nil _ _ _⟩
    case round =>
      obtain ⟨i, dd, hi, rfl, rfl, hO⟩ := hrel
      have HO := Lib.hid hO
      clear hO
      by_cases hlt : i < m
      · have x1 : (i : Int) < (m : Int) := by omega
        go_wp2_with fail
        go_loopw [8, 28] (fun v8 v28 wr => ∃ (k : Nat) (dd : Ext), k ≤ i ∧ v28 = .int .i64 (k : Int) ∧ wr = lay w [.inr dd, .inl (.cells #[.int .i64 0, .int .i64 0] 26 (0, 0))] ∧ OwG riR (lay w [.inr dd, .inl (.cells #[.int .i64 0, .int .i64 0] 26 (0, 0))]) (lay w [.inl (.cells #[.int .i64 0, .int .i64 0] 26 (0, 0))]).heap.size v8 (risAll t h i ++ risRow t h i k)) (fun _ v28 _ => i - (intOf v28).toNat)
        case atStart => exact ⟨0, dd, Nat.zero_le _, rfl, rfl, by rw [show risRow t h i 0 = [] from rfl, List.append_nil]; exact HO.out⟩
        case round =>
          obtain ⟨k, d2, hk, rfl, rfl, hO2⟩ := hrel
          have HO2 := Lib.hid hO2
          clear hO2
          by_cases hlt2 : k < i
          · have e1 := HTc.out i hlt
            have e2 := HTc.out k (by omega)
            have f1 := HHc.out i hlt
            have f2 := HHc.out k (by omega)
            have bd1 := HB.out.1 i (by rw [HM.out.1]; exact hlt)
            have bd2 := HB.out.1 k (by rw [HM.out.1]; omega)
            have bd3 := HB.out.2 i (by rw [HM.out.2]; exact hlt)
            have bd4 := HB.out.2 k (by rw [HM.out.2]; omega)
            have y0 : (0 : Int) ≤ (i : Int) := by omega
            have y1 : (0 : Int) ≤ (k : Int) := by omega
            have y2 : (k : Int) < (i : Int) := by omega
            have y3 : (k : Int) < (m : Int) := by omega
            have hlen : (risAll t h i ++ risRow t h i k).length ≤ 1000000000 := by
              rw [List.length_append]
              have l1 := risAll_len t h i
              have l2 := risRow_len t h i k
              have l3 : i * i ≤ 1000 * 1000 := Nat.mul_le_mul (by omega) (by omega)
              omega
            have HST := Lib.hid (show risAll t h i ++ risRow t h i (k + 1) = (risAll t h i ++ risRow t h i k) ++ rp t h i k by rw [List.append_assoc]; rfl)
            have HRP : Hid (rp t h i k = if 0 < nth t i - nth t k then [mkR (nth h i - nth h k) (nth t i - nth t k)] else if nth t i - nth t k < 0 then [mkR (nth h k - nth h i) (-(nth t i - nth t k))] else []) := Lib.hid rfl
            generalize rp t h i k = RP at *
            generalize risAll t h i ++ risRow t h i k = L at *
            generalize nth t i = ti at *
            generalize nth t k = tk at *
            generalize nth h i = hi' at *
            generalize nth h k = hk' at *
            have w1 : IntKind.i64.wrap (ti - tk) = ti - tk := IntWalk.i64_in _ (by omega)
            have w2 : IntKind.i64.wrap (hi' - hk') = hi' - hk' := IntWalk.i64_in _ (by omega)
            have w3 : IntKind.i64.wrap (hk' - hi') = hk' - hi' := IntWalk.i64_in _ (by omega)
            have w4 : IntKind.i64.wrap (-(ti - tk)) = -(ti - tk) := IntWalk.i64_in _ (by omega)
            obtain ⟨D, hD⟩ : ∃ D, ti - tk = D := ⟨_, rfl⟩
            rw [hD] at HRP w4
            have w1' : IntKind.i64.wrap (ti - tk) = D := w1.trans hD
            have hDb : -172800000 ≤ D ∧ D ≤ 172800000 := by omega
            clear w1 hD
            by_cases c1 : 0 < D
            · have c1' := decide_eq_true c1
              rw [if_pos c1] at HRP
              go_wp2_with fail
              refine region_bw (by kernel_rfl) (by kernel_rfl) ?_
              repeat (go_big_quiet_step ((first | fail)))
              refine wpQuiet_nil ?_
              rintro w' ⟨d, rfl⟩
              rw [lay_bw]
              obtain ⟨d3, e3⟩ : ∃ x, lay w [.inr d, .inr d2, .inl (.cells #[.int .i64 0, .int .i64 0] 26 (0, 0))] = lay w [.inr x, .inl (.cells #[.int .i64 0, .int .i64 0] 26 (0, 0))] := ⟨_, bw_bw _ _ _⟩
              have HO3 := Lib.hid (owG_on (A := [.inr d]) HO2.out)
              change Hid (OwG riR (lay w [.inr d, .inr d2, .inl (.cells #[.int .i64 0, .int .i64 0] 26 (0, 0))]) _ _ L) at HO3
              rw [e3] at HO3 ⊢
              clear e3
              go_wp2_with fail
              refine region_mixT 13 [0, 0, 0, 0, 0, 0, 0, 0, 0, 0, 0, 0, 1] (by kernel_rfl) (by kernel_rfl) (by kernel_rfl) (by kernel_rfl) (by simp) (by kernel_rfl) ?_
              simp only [List.take_succ_cons, List.take_zero, List.drop_succ_cons, List.drop_zero]
              repeat (first | (refine wpM_quiet (fun K hK => ?_); go_simp; first | (refine hK _ ?_; clear hK K) | (apply Exists.intro; refine ⟨fun _ => ?_, hK _ ?_⟩; (first | fail); clear hK K)) | (refine wpM_special (fun K hK d => ?_); go_simp; refine hK _ _ (by first | exact lay_in w [_] _ | exact lay_in w [_, _] _ | exact lay_in w [_, _, _] _ | exact lay_in w [_, _, _, _] _ | exact lay_in w [_, _, _, _, _] _ | exact lay_in w [_, _, _, _, _, _] _) ?_; clear hK K))
              refine wpM_nil ?_
              intro d1
              rw [lay_bw]
              refine push_rec riOk rfl _ _ rfl (lay w [.inl (.cells #[.int .i64 0, .int .i64 0] 26 (0, 0))]) _ (mkR (hi' - hk') (D)) #[.int .i64 (hi' - hk'), .int .i64 (D)] 83 _ _ L ?_ (owG_on (A := [_, _, _]) HO3.out) ?_ (by show [_, _] = [Value.int .i64 (mkR _ _).1.h, Value.int .i64 (mkR _ _).1.t]; rw [mkR_h (by omega)]) rfl rfl hlen trivial ?_
              · exact lay_belowG (A := [_, _, _, _])
              · exact lay_get w _ 1 _ rfl
              intro v' d' hv'
              have HV := Lib.hid hv'
              clear hv'
              go_wp2_with fail
              go_roundw
              case rel => exact ⟨k + 1, d', hlt2, by go_num, rfl, by rw [HST.out, HRP.out]; exact HV.out⟩
              case measure => simp [intOf]; omega
            · have c1' := decide_eq_false c1
              rw [if_neg c1] at HRP
              by_cases c2 : D < 0
              · have c2' := decide_eq_true c2
                rw [if_pos c2] at HRP
                go_wp2_with fail
                refine region_bw (by kernel_rfl) (by kernel_rfl) ?_
                repeat (go_big_quiet_step ((first | fail)))
                refine wpQuiet_nil ?_
                rintro w' ⟨d, rfl⟩
                rw [lay_bw]
                obtain ⟨d3, e3⟩ : ∃ x, lay w [.inr d, .inr d2, .inl (.cells #[.int .i64 0, .int .i64 0] 26 (0, 0))] = lay w [.inr x, .inl (.cells #[.int .i64 0, .int .i64 0] 26 (0, 0))] := ⟨_, bw_bw _ _ _⟩
                have HO3 := Lib.hid (owG_on (A := [.inr d]) HO2.out)
                change Hid (OwG riR (lay w [.inr d, .inr d2, .inl (.cells #[.int .i64 0, .int .i64 0] 26 (0, 0))]) _ _ L) at HO3
                rw [e3] at HO3 ⊢
                clear e3
                go_wp2_with fail
                refine region_mixT 14 [0, 0, 0, 0, 0, 0, 0, 0, 0, 0, 0, 0, 0, 1] (by kernel_rfl) (by kernel_rfl) (by kernel_rfl) (by kernel_rfl) (by simp) (by kernel_rfl) ?_
                simp only [List.take_succ_cons, List.take_zero, List.drop_succ_cons, List.drop_zero]
                repeat (first | (refine wpM_quiet (fun K hK => ?_); go_simp; first | (refine hK _ ?_; clear hK K) | (apply Exists.intro; refine ⟨fun _ => ?_, hK _ ?_⟩; (first | fail); clear hK K)) | (refine wpM_special (fun K hK d => ?_); go_simp; refine hK _ _ (by first | exact lay_in w [_] _ | exact lay_in w [_, _] _ | exact lay_in w [_, _, _] _ | exact lay_in w [_, _, _, _] _ | exact lay_in w [_, _, _, _, _] _ | exact lay_in w [_, _, _, _, _, _] _) ?_; clear hK K))
                refine wpM_nil ?_
                intro d1
                rw [lay_bw]
                refine push_rec riOk rfl _ _ rfl (lay w [.inl (.cells #[.int .i64 0, .int .i64 0] 26 (0, 0))]) _ (mkR (hk' - hi') (-D)) #[.int .i64 (hk' - hi'), .int .i64 (-D)] 83 _ _ L ?_ (owG_on (A := [_, _, _]) HO3.out) ?_ (by show [_, _] = [Value.int .i64 (mkR _ _).1.h, Value.int .i64 (mkR _ _).1.t]; rw [mkR_h (by omega)]) rfl rfl hlen trivial ?_
                · exact lay_belowG (A := [_, _, _, _])
                · exact lay_get w _ 1 _ rfl
                intro v' d' hv'
                have HV := Lib.hid hv'
                clear hv'
                go_wp2_with fail
                go_roundw
                case rel => exact ⟨k + 1, d', hlt2, by go_num, rfl, by rw [HST.out, HRP.out]; exact HV.out⟩
                case measure => simp [intOf]; omega
              · have c2' := decide_eq_false c2
                rw [if_neg c2] at HRP
                go_wp2_with fail
                refine region_bw (by kernel_rfl) (by kernel_rfl) ?_
                repeat (go_big_quiet_step ((first | fail)))
                refine wpQuiet_nil ?_
                rintro w' ⟨d, rfl⟩
                rw [lay_bw]
                obtain ⟨d3, e3⟩ : ∃ x, lay w [.inr d, .inr d2, .inl (.cells #[.int .i64 0, .int .i64 0] 26 (0, 0))] = lay w [.inr x, .inl (.cells #[.int .i64 0, .int .i64 0] 26 (0, 0))] := ⟨_, bw_bw _ _ _⟩
                have HO3 := Lib.hid (owG_on (A := [.inr d]) HO2.out)
                change Hid (OwG riR (lay w [.inr d, .inr d2, .inl (.cells #[.int .i64 0, .int .i64 0] 26 (0, 0))]) _ _ L) at HO3
                rw [e3] at HO3 ⊢
                clear e3
                go_wp2_with fail
                go_roundw
                case rel => exact ⟨k + 1, d3, hlt2, by go_num, rfl, by rw [HST.out, HRP.out, List.append_nil]; exact HO3.out⟩
                case measure => simp [intOf]; omega
          · obtain rfl : k = i := by omega
            have HST := HAs.out k
            rw [← HST] at HO2
            clear HST
            have x3 : ¬ (k : Int) < (k : Int) := by omega
            go_wp2_with fail
            go_roundw
            case rel => exact ⟨k + 1, d2, by omega, by go_num, rfl, HO2.out⟩
            case measure => simp [intOf]; omega
      · obtain rfl : i = m := by omega
        have x2 : ¬ (i : Int) < (i : Int) := by omega
        have hb : i * i ≤ 1000 * 1000 := Nat.mul_le_mul hn hn
        obtain ⟨q, hq⟩ : ∃ q, (risAll t h i).length = q := ⟨_, rfl⟩
        have hqb : q ≤ 1000000 := by rw [← hq]; have := HLl.out; omega
        rw [hq] at HF
        have HQ := Lib.hid hq
        clear HAs HB HTc HHc hb HLl
        by_cases hq0 : q = 0
        · subst hq0
          obtain ⟨a, cp, hv8⟩ := HO.out.form
          rw [HQ.out] at hv8
          subst hv8
          obtain ⟨r1, r2, r3, r4⟩ := HF.out.1 (List.eq_nil_of_length_eq_zero HQ.out)
          subst r1 r2 r3 r4
          go_wp2_with fail
          exact bodyPost_ret (v := .tuple #[(.agg #[.int .i64 (0), .int .i64 (0)]), .int .i64 0, .int .i64 12]) (by simp [results, Tryz.results17, go_sem]) rfl ⟨rfl, lay_ex _ _⟩
        · obtain ⟨g, cp, hv8, hg1, hg2, hg3⟩ := HO.out.form1 (by rw [HQ.out]; omega)
          rw [HQ.out] at hv8 hg3
          subst hv8
          have HSo := Lib.hid (av_sort _ _ _ _ (lay_belowG (A := [.inr dd]) (B := [.inl (.cells #[.int .i64 0, .int .i64 0] 26 (0, 0))])) HO.out (by rw [HQ.out]; omega) (by rw [HQ.out]; omega))
          change Hid (Calls _ _ _ (lay w [.inr dd, .inl (.cells #[.int .i64 0, .int .i64 0] 26 (0, 0))]) _) at HSo
          have z1 : ((q : Int) == 0) = false := beq_eq_false_iff_ne.2 (by omega)
          obtain ⟨lo, hlo⟩ : ∃ lo, (q - 1) / 2 = lo := ⟨_, rfl⟩
          have HLw := Lib.hid (fun W => av_lower q W (by omega) hqb)
          rw [hlo] at HLw HF
          have hlq : lo < q := by omega
          clear HO hlo
          go_wp2_with (go_at_call 39; refine HSo.out.mono ?_; rintro e w' ⟨rfl, d2, L', rfl, hp, hs, hO2⟩)
          obtain ⟨x, hx⟩ : ∃ x, L'[lo]? = some x := ⟨_, List.getElem?_eq_getElem (by rw [hp.length_eq, HQ.out]; exact hlq)⟩
          have HC2 := Lib.hid (HF.out.2 L' x hp hs hx)
          change OwG riR (lay w [.inr d2, .inl (.cells #[.int .i64 0, .int .i64 0] 26 (0, 0))]) _ _ _ at hO2
          have g1 := fun d' => (owG_on (A := [.inr d']) hO2).cell riOk hx (j := 0) rfl
          have g2 := fun d' => (owG_on (A := [.inr d']) hO2).cell riOk hx (j := 1) rfl
          have hxb := x.2
          obtain ⟨xh, hxh⟩ : ∃ xh, x.1.h = xh := ⟨_, rfl⟩
          obtain ⟨xt, hxt⟩ : ∃ xt, x.1.t = xt := ⟨_, rfl⟩
          rw [hxh, hxt] at HC2 hxb
          have g1' : ∀ d', (lay w [.inr d', .inr d2, .inl (.cells #[.int .i64 0, .int .i64 0] 26 (0, 0))]).cell? ⟨g, lo * 2, none⟩ = some (.int .i64 xh) := fun d' => by rw [← hxh]; exact g1 d'
          have g2' : ∀ d', (lay w [.inr d', .inr d2, .inl (.cells #[.int .i64 0, .int .i64 0] 26 (0, 0))]).cell? ⟨g, lo * 2 + 1, none⟩ = some (.int .i64 xt) := fun d' => by rw [← hxt]; exact g2 d'
          have HMk := Lib.hid (fun W => rt_Make (1000 * xh) xt W (by omega) (by omega))
          have eMk : mkE (1000 * xh) xt = if mkBig (1000 * xh) xt = true then 5 else 0 := if_neg (by omega)
          have u1 : IntKind.i64.wrap (1000 * xh) = 1000 * xh := IntWalk.i64_in _ (by omega)
          have u2 : (0 : Int) ≤ (lo : Int) := by omega
          have u3 : (lo : Int) < (q : Int) := by omega
          have hxt1 : 1 ≤ xt := by omega
          clear hp hs hx hxb hxh hxt g1 g2 hO2 HSo HF
          refine (HLw.out _).mono ?_
          rintro e w' ⟨rfl, d3, rfl⟩
          rw [lay_bw]
          cases hbig : mkBig (1000 * xh) xt
          · have HOk := Lib.hid (mk_ok hxt1 hbig)
            rw [hbig, if_neg (by decide)] at eMk
            unfold mkNN mkDD at HMk
            rw [eMk, if_pos rfl, if_pos rfl] at HMk
            have HSl := Lib.hid (fun W => av_slopes _ _ W HOk.out)
            have HC3 := Lib.hid (HC2.out.2 hbig)
            have HC4 := Lib.hid (fun hh => HC2.out.1 (.inr hh))
            clear hbig eMk HC2
            generalize mkN (1000 * xh) xt = N at *
            generalize mkD (1000 * xh) xt = Dn at *
            cases hsl : slpB N Dn
            · rw [hsl] at HSl
              obtain ⟨r1, r2, r3, r4⟩ := HC4.out hsl
              subst r1 r2 r3 r4
              clear hsl HC3 HC4
              go_wp2_with (first | (go_at_call 32; refine (HMk.out _).mono ?_; rintro e w' ⟨rfl, d4, rfl⟩) | (go_at_call 42; refine (HSl.out _).mono ?_; rintro e w' ⟨rfl, d5, rfl⟩))
              exact bodyPost_ret (v := .tuple #[(.agg #[.int .i64 (0), .int .i64 (0)]), .int .i64 0, .int .i64 5]) (by simp [results, Tryz.results17, go_sem]) rfl ⟨rfl, lay_ex _ _⟩
            · rw [hsl] at HSl
              obtain ⟨r1, r2, r3, r4⟩ := HC3.out hsl
              subst r1 r2 r4
              clear hsl HC3 HC4
              go_wp2_with (first | (go_at_call 32; refine (HMk.out _).mono ?_; rintro e w' ⟨rfl, d4, rfl⟩) | (go_at_call 42; refine (HSl.out _).mono ?_; rintro e w' ⟨rfl, d5, rfl⟩))
              have HMd := Lib.hid (fun v W q => av_median v (resK t h eN eD i) W q (by rw [resK_len]; exact h1) (by rw [resK_len]; omega))
              rw [← r3] at HMd
              clear r3
              refine region_mixS 6 [(0, 0), (1, 2), (2, 2), (3, 1), (4, 1), (5, 1), (6, 3), (7, 2), (8, 2)] (by kernel_rfl) (by kernel_rfl) (by kernel_rfl) rfl ?_
              repeat (first | (refine wpMS_pure rfl (fun K hK => ?_); go_simp; refine hK _ ?_; clear hK K) | (refine wpMS_quiet rfl (fun K hK => ?_); go_simp; first | (refine hK _ ?_; clear hK K) | (apply Exists.intro; refine ⟨fun _ => ?_, hK _ ?_⟩; (first | fail); clear hK K)))
              refine wpMS_special rfl (fun K hK e1 => ?_)
              go_simp
              refine hK _ _ ⟨_, rfl⟩ ?_
              clear hK K
              refine wpMS_special rfl (fun K hK e2 => ?_)
              go_simp
              refine (HRs.out _ _ _ _ _ (HT.out.lay _) (HH.out.lay _) HOk.out).mono ?_
              rintro e w' ⟨v, d6, rfl, rfl, hv⟩
              refine ⟨_, rfl, ?_⟩
              rw [lay_bw] at hv ⊢
              have HV := Lib.hid (fun e3 => hv.sl.bw e3)
              clear hv
              refine hK _ _ (lay_in w [_, _, _] _) ?_
              clear hK K
              refine wpMS_special rfl (fun K hK e3 => ?_)
              rw [lay_bw]
              go_simp
              refine (HMd.out v _ (HV.out e3)).mono ?_
              rintro e w' ⟨rfl, d7, rfl⟩
              refine ⟨_, rfl, ?_⟩
              rw [lay_bw, lay_bw]
              refine hK _ _ (lay_in w [_, _, _, _, _] _) ?_
              clear hK K
              refine wpMS_store rfl (fun K hK e4 => ?_)
              rw [lay_bw]
              go_simp
              refine hK _ _ ?_
              clear hK K
              repeat (first | (refine wpMS_pure rfl (fun K hK => ?_); go_simp; refine hK _ ?_; clear hK K) | (refine wpMS_quiet rfl (fun K hK => ?_); go_simp; first | (refine hK _ ?_; clear hK K) | (apply Exists.intro; refine ⟨fun _ => ?_, hK _ ?_⟩; (first | fail); clear hK K)))
              refine wpMS_nil ?_
              intro d9
              rw [lay_bw]
              go_wp2_with fail
              exact bodyPost_ret (v := .tuple #[(.agg #[.int .i64 (eN), .int .i64 (eD)]), .int .i64 eK, .int .i64 0]) (by simp [results, Tryz.results17, go_sem]) rfl ⟨rfl, lay_ex _ _⟩
          · rw [hbig, if_pos rfl] at eMk
            unfold mkNN mkDD at HMk
            rw [eMk, if_neg (by decide), if_neg (by decide)] at HMk
            obtain ⟨r1, r2, r3, r4⟩ := HC2.out.1 (.inl hbig)
            subst r1 r2 r3 r4
            clear HC2 hbig eMk
            go_wp2_with (go_at_call 32; refine (HMk.out _).mono ?_; rintro e w' ⟨rfl, d4, rfl⟩)
            exact bodyPost_ret (v := .tuple #[(.agg #[.int .i64 (0), .int .i64 (0)]), .int .i64 0, .int .i64 5]) (by simp [results, Tryz.results17, go_sem]) rfl ⟨rfl, lay_ex _ _⟩
  · have hE := lnE_chk c0
    obtain ⟨n1, n2, n3⟩ := ln_bad (t := t) (h := h) (by rw [hE]; exact c0)
    rw [n1, n2, n3, hE]
    obtain ⟨a1, c1, rfl, -⟩ := ht
    obtain ⟨a2, c2, rfl, -⟩ := hh
    have t1 : (chkE t h == 0) = false := beq_eq_false_iff_ne.2 c0
    have t2 : (chkE t h != 0) = true := by rw [bne, t1]; rfl
    clear hE n1 n2 n3
    generalize chkE t h = E at *
    refine lay_start ?_
    go_enter Tryz.func17, Tryz.ntmps17
    go_wp2_with (go_at_call 38; refine (HC.out _ (HT.out.lay _) (HH.out.lay _)).mono ?_; rintro e w' ⟨rfl, dA, rfl⟩)
    exact bodyPost_ret (v := .tuple #[(.agg #[.int .i64 (0), .int .i64 (0)]), .int .i64 0, .int .i64 E]) (by simp [results, Tryz.results17, go_sem]) rfl ⟨rfl, lay_ex _ _⟩
end Go.Proofs.YtmomoeagnkjbiaaGreat
/- Readings on a line: the plain law. -/
namespace Go.Proofs.YtmomoeagnkjbiaaGreat
open Go.RowKit

def tS (l : List Int) : List Int := l.map fun x => 1000 * x
def hS (l : List Int) (s v : Int) : List Int := l.map fun x => v + s * x
theorem tS_len (l : List Int) : (tS l).length = l.length := List.length_map _
theorem hS_len (l : List Int) (s v : Int) : (hS l s v).length = l.length := List.length_map _
theorem tS_nth {l : List Int} {i : Nat} (h : i < l.length) : nth (tS l) i = 1000 * nth l i := by
  rw [nth_lt (by rw [tS_len]; exact h), nth_lt h]; simp [tS]
theorem hS_nth {l : List Int} {s v : Int} {i : Nat} (h : i < l.length) : nth (hS l s v) i = v + s * nth l i := by
  rw [nth_lt (by rw [hS_len]; exact h), nth_lt h]; simp [hS]
structure StOk (l : List Int) (s v : Int) : Prop where
  l1 : 1 ≤ l.length
  l2 : l.length ≤ 16
  x : ∀ i, i < l.length → -128 ≤ nth l i ∧ nth l i ≤ 127
  s1 : -128 ≤ s ∧ s ≤ 127
  v1 : -32768 ≤ v ∧ v ≤ 32767
variable {l : List Int} {s v : Int}
theorem StOk.sx (o : StOk l s v) {i : Nat} (h : i < l.length) : -16384 ≤ s * nth l i ∧ s * nth l i ≤ 16384 := by
  have h1 := o.x i h
  have h2 := o.s1
  have h3 : (s * nth l i).natAbs ≤ 128 * 128 := by rw [Int.natAbs_mul]; exact Nat.mul_le_mul (by omega) (by omega)
  omega
theorem st_chk (o : StOk l s v) : chkE (tS l) (hS l s v) = 0 := by
  unfold chkE
  have h1 := o.l1; have h2 := o.l2; have h3 := o.v1
  rw [if_neg (by rw [tS_len, hS_len]; omega)]
  have e1 : outB (tS l) 86400000 = false := outB_in fun i hi => by
    rw [tS_len] at hi
    rw [tS_nth hi]; have := o.x i hi; omega
  have e2 : outB (hS l s v) 10800000 = false := outB_in fun i hi => by
    rw [hS_len] at hi
    rw [hS_nth hi]; have := o.sx hi; omega
  rw [e1, e2, if_neg (by decide)]
theorem st_res (l : List Int) (s v : Int) : resK (tS l) (hS l s v) s 1 (tS l).length = List.replicate (tS l).length v := by
  unfold resK
  refine List.ext_getElem (by simp) fun i h1 h2 => ?_
  have h3 : i < l.length := by simpa [tS_len] using h1
  rw [List.getElem_replicate, List.getElem_map, List.getElem_range, tS_nth h3, hS_nth h3]
  exact res_line v s (nth l i)
theorem mkR_ok (o : StOk l s v) {i k : Nat} (hi : i < l.length) (hk : k < l.length) (h : 0 < nth l i - nth l k) : (mkR (nth (hS l s v) i - nth (hS l s v) k) (nth (tS l) i - nth (tS l) k)).1 = ⟨s * (nth l i - nth l k), 1000 * (nth l i - nth l k)⟩ := by
  rw [tS_nth hi, tS_nth hk, hS_nth hi, hS_nth hk]
  have h1 := o.sx hi; have h2 := o.sx hk; have h3 := o.x i hi; have h4 := o.x k hk
  rw [mkR_h (by omega)]
  congr 1
  · rw [Int.mul_sub]; omega
  · omega
/-- What all quotients satisfy. -/
def OnL (s : Int) (x : RisB) : Prop := 1000 * x.1.h = s * x.1.t
theorem rp_on (o : StOk l s v) {i k : Nat} (hi : i < l.length) (hk : k < l.length) : ∀ x ∈ rp (tS l) (hS l s v) i k, OnL s x := by
  intro x hx
  have e := tS_nth hi
  have e2 := tS_nth hk
  by_cases c1 : 0 < nth (tS l) i - nth (tS l) k
  · rw [rp_pos c1, List.mem_singleton] at hx
    subst hx
    unfold OnL
    rw [mkR_ok o hi hk (by omega)]
    dsimp only
    rw [Int.mul_left_comm]
  · by_cases c2 : nth (tS l) i - nth (tS l) k < 0
    · rw [rp_neg c2, List.mem_singleton] at hx
      subst hx
      unfold OnL
      rw [show -(nth (tS l) i - nth (tS l) k) = nth (tS l) k - nth (tS l) i by omega, mkR_ok o hk hi (by omega)]
      dsimp only
      rw [Int.mul_left_comm]
    · rw [rp_nil c1 c2] at hx
      exact absurd hx (List.not_mem_nil)
theorem row_on (o : StOk l s v) {i : Nat} (hi : i < l.length) : ∀ k, k ≤ l.length → ∀ x ∈ risRow (tS l) (hS l s v) i k, OnL s x
  | 0, _, x, hx => absurd hx (List.not_mem_nil)
  | k + 1, hk, x, hx => by
    rcases List.mem_append.1 (show x ∈ risRow (tS l) (hS l s v) i k ++ rp (tS l) (hS l s v) i k from hx) with h | h
    · exact row_on o hi k (by omega) x h
    · exact rp_on o hi (by omega) x h
theorem all_on (o : StOk l s v) : ∀ m, m ≤ l.length → ∀ x ∈ risAll (tS l) (hS l s v) m, OnL s x
  | 0, _, x, hx => absurd hx (List.not_mem_nil)
  | m + 1, hm, x, hx => by
    rcases List.mem_append.1 (show x ∈ risAll (tS l) (hS l s v) m ++ risRow (tS l) (hS l s v) m m from hx) with h | h
    · exact all_on o m (by omega) x h
    · exact row_on o (by omega) m (by omega) x h
theorem rrow_nil {t h : List Int} {i : Nat} : ∀ k, (∀ j, j < k → nth t i = nth t j) → risRow t h i k = []
  | 0, _ => rfl
  | k + 1, e => by
    show risRow t h i k ++ rp t h i k = []
    have := e k (by omega)
    rw [rrow_nil k (fun j hj => e j (by omega)), rp_nil (by omega) (by omega)]; rfl
theorem all_nil {t h : List Int} : ∀ m, (∀ i, i < m → nth t i = nth t 0) → risAll t h m = []
  | 0, _ => rfl
  | m + 1, e => by
    show risAll t h m ++ risRow t h m m = []
    rw [all_nil m (fun i hi => e i (by omega)), rrow_nil m (fun j hj => by rw [e m (by omega), e j (by omega)])]; rfl
theorem rp_ne {t h : List Int} {i k : Nat} (e : nth t i ≠ nth t k) : rp t h i k ≠ [] := by
  by_cases c1 : 0 < nth t i - nth t k
  · rw [rp_pos c1]; simp
  · rw [rp_neg (by omega)]; simp
theorem row_ne {t h : List Int} {i j : Nat} (e : nth t i ≠ nth t j) : ∀ k, j < k → risRow t h i k ≠ []
  | 0, hj => absurd hj (Nat.not_lt_zero j)
  | k + 1, hj => by
    show risRow t h i k ++ rp t h i k ≠ []
    by_cases hk : j = k
    · subst hk
      intro h0
      exact rp_ne e (List.append_eq_nil_iff.1 h0).2
    · intro h0
      exact row_ne e k (by omega) (List.append_eq_nil_iff.1 h0).1
theorem all_ne {t h : List Int} {i : Nat} (h0 : 0 < i) (e : nth t i ≠ nth t 0) : ∀ m, i < m → risAll t h m ≠ []
  | 0, hi => absurd hi (Nat.not_lt_zero i)
  | m + 1, hi => by
    show risAll t h m ++ risRow t h m m ≠ []
    by_cases hm : i = m
    · subst hm
      intro h1
      exact row_ne e i h0 (List.append_eq_nil_iff.1 h1).2
    · intro h1
      exact all_ne h0 e m (by omega) (List.append_eq_nil_iff.1 h1).1
theorem st_no (o : StOk l s v) (h : ∀ i, i < l.length → nth l i = nth l 0) : lnN (tS l) (hS l s v) = 0 ∧ lnD (tS l) (hS l s v) = 0 ∧ lnK (tS l) (hS l s v) = 0 ∧ lnE (tS l) (hS l s v) = 12 := by
  refine (ln_cases _ _ (st_chk o)).1 ?_
  rw [tS_len]
  refine all_nil _ fun i hi => ?_
  rw [tS_nth hi, tS_nth (by omega), h i hi]
theorem st_yes (o : StOk l s v) {i : Nat} (hi : i < l.length) (h : nth l i ≠ nth l 0) : lnN (tS l) (hS l s v) = s ∧ lnD (tS l) (hS l s v) = 1 ∧ lnK (tS l) (hS l s v) = v ∧ lnE (tS l) (hS l s v) = 0 := by
  have hne : risAll (tS l) (hS l s v) (tS l).length ≠ [] := by
    rw [tS_len]
    have h0 : 0 < i := Nat.pos_of_ne_zero fun e => h (by rw [e])
    refine all_ne h0 ?_ _ hi
    rw [tS_nth hi, tS_nth (by omega)]; omega
  have hp := List.length_pos_iff.2 hne
  obtain ⟨x, hx⟩ : ∃ x, (srtR (risAll (tS l) (hS l s v) (tS l).length))[((risAll (tS l) (hS l s v) (tS l).length).length - 1) / 2]? = some x := ⟨_, List.getElem?_eq_getElem (by rw [srtR_len]; omega)⟩
  have hL := (ln_cases _ _ (st_chk o)).2 _ x (srtR_perm _) (srtR_pair _) hx
  have hon : OnL s x := all_on o (tS l).length (by rw [tS_len]; exact Nat.le_refl _) x ((srtR_perm _).mem_iff.1 (List.mem_of_getElem? hx))
  unfold OnL at hon
  rw [hon] at hL
  have hxt : 0 < x.1.t := by have := x.2; omega
  obtain ⟨w1, w2⟩ := mk_whole (s := s) hxt
  have w3 : mkBig (s * x.1.t) x.1.t = false := by
    obtain ⟨-, -, h3⟩ := mk_same (a := s * x.1.t) (b := x.1.t) (c := s) (d := 1) hxt (by omega) (by rw [Int.mul_one])
    rw [h3]
    unfold mkBig
    have e : Nat.gcd s.natAbs (1 : Int).natAbs = 1 := by show Nat.gcd s.natAbs 1 = 1; exact Nat.gcd_one_right _
    have := o.s1
    rw [e, Nat.div_one]
    simp
    omega
  rw [w1, w2] at hL
  have hs : slpB s 1 = true := by unfold slpB; have := o.s1; rw [decide_eq_true_eq]; omega
  obtain ⟨a1, a2, a3, a4⟩ := hL.2 w3 hs
  refine ⟨a1, a2, ?_, a4⟩
  rw [a3, st_res]
  have hm := medI_mem (l := List.replicate (tS l).length v) (by have := o.l1; rw [tS_len]; intro e; have h9 := congrArg List.length e; rw [List.length_replicate, List.length_nil] at h9; omega)
  exact (List.mem_replicate.1 hm).2
end Go.Proofs.YtmomoeagnkjbiaaGreat

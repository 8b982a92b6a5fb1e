/- Contracts and plain laws, several texts in one: StP; Av7; La4 -/
import Derived.Test.YtejmgdpgngjiiaaGreatProg
import Derived.WalkKit
import Derived.WalkSpells
import Derived.WalkLawsBesides
import Derived.Lib.Hide
import Derived.BigQuiet
import Derived.Test.YtejmgdpgngjiiaaGreatBAA
import Derived.Test.YtejmgdpgngjiiaaGreatBAB
import Derived.Test.YtejmgdpgngjiiaaGreatBAI
import Derived.Test.YtejmgdpgngjiiaaGreatBAO
/- Readings on a line: the plain law. -/
namespace Go.Proofs.YtejmgdpgngjiiaaGreat
open Go.RowKit

def tS (l : List Int) : List Int := l.map fun x => 1000 * x
def hS (l : List Int) (s v : Int) : List Int := l.map fun x => v + s * x
theorem tS_len (l : List Int) : (tS l).length = l.length := List.length_map _
theorem hS_len (l : List Int) (s v : Int) : (hS l s v).length = l.length := List.length_map _
theorem tS_nth {l : List Int} {i : Nat} (h : i < l.length) : nth (tS l) i = 1000 * nth l i := by
  rw [nth_lt (by rw [tS_len]; exact h), nth_lt h]; simp [tS]
theorem hS_nth {l : List Int} {s v : Int} {i : Nat} (h : i < l.length) : nth (hS l s v) i = v + s * nth l i := by
  rw [nth_lt (by rw [hS_len]; exact h), nth_lt h]; simp [hS]
structure StOk (l : List Int) (s v : Int) : Prop where
  l1 : 1 ≤ l.length
  l2 : l.length ≤ 16
  x : ∀ i, i < l.length → -128 ≤ nth l i ∧ nth l i ≤ 127
  s1 : -128 ≤ s ∧ s ≤ 127
  v1 : -32768 ≤ v ∧ v ≤ 32767
variable {l : List Int} {s v : Int}
theorem StOk.sx (o : StOk l s v) {i : Nat} (h : i < l.length) : -16384 ≤ s * nth l i ∧ s * nth l i ≤ 16384 := by
  have h1 := o.x i h
  have h2 := o.s1
  have h3 : (s * nth l i).natAbs ≤ 128 * 128 := by rw [Int.natAbs_mul]; exact Nat.mul_le_mul (by omega) (by omega)
  omega
theorem st_chk (o : StOk l s v) : chkE (tS l) (hS l s v) = 0 := by
  unfold chkE
  have h1 := o.l1; have h2 := o.l2; have h3 := o.v1
  rw [if_neg (by rw [tS_len, hS_len]; omega)]
  have e1 : outB (tS l) 86400000 = false := outB_in fun i hi => by
    rw [tS_len] at hi
    rw [tS_nth hi]; have := o.x i hi; omega
  have e2 : outB (hS l s v) 10800000 = false := outB_in fun i hi => by
    rw [hS_len] at hi
    rw [hS_nth hi]; have := o.sx hi; omega
  rw [e1, e2, if_neg (by decide)]
theorem st_res (l : List Int) (s v : Int) : resK (tS l) (hS l s v) s 1 (tS l).length = List.replicate (tS l).length v := by
  unfold resK
  refine List.ext_getElem (by simp) fun i h1 h2 => ?_
  have h3 : i < l.length := by simpa [tS_len] using h1
  rw [List.getElem_replicate, List.getElem_map, List.getElem_range, tS_nth h3, hS_nth h3]
  exact res_line v s (nth l i)
theorem mkR_ok (o : StOk l s v) {i k : Nat} (hi : i < l.length) (hk : k < l.length) (h : 0 < nth l i - nth l k) : (mkR (nth (hS l s v) i - nth (hS l s v) k) (nth (tS l) i - nth (tS l) k)).1 = ⟨s * (nth l i - nth l k), 1000 * (nth l i - nth l k)⟩ := by
  rw [tS_nth hi, tS_nth hk, hS_nth hi, hS_nth hk]
  have h1 := o.sx hi; have h2 := o.sx hk; have h3 := o.x i hi; have h4 := o.x k hk
  rw [mkR_h (by omega)]
  congr 1
  · rw [Int.mul_sub]; omega
  · omega
/-- What all quotients satisfy. -/
def OnL (s : Int) (x : RisB) : Prop := 1000 * x.1.h = s * x.1.t
theorem rp_on (o : StOk l s v) {i k : Nat} (hi : i < l.length) (hk : k < l.length) : ∀ x ∈ rp (tS l) (hS l s v) i k, OnL s x := by
  intro x hx
  have e := tS_nth hi
  have e2 := tS_nth hk
  by_cases c1 : 0 < nth (tS l) i - nth (tS l) k
  · rw [rp_pos c1, List.mem_singleton] at hx
    subst hx
    unfold OnL
    rw [mkR_ok o hi hk (by omega)]
    dsimp only
    rw [Int.mul_left_comm]
  · by_cases c2 : nth (tS l) i - nth (tS l) k < 0
    · rw [rp_neg c2, List.mem_singleton] at hx
      subst hx
      unfold OnL
      rw [show -(nth (tS l) i - nth (tS l) k) = nth (tS l) k - nth (tS l) i by omega, mkR_ok o hk hi (by omega)]
      dsimp only
      rw [Int.mul_left_comm]
    · rw [rp_nil c1 c2] at hx
      exact absurd hx (List.not_mem_nil)
theorem row_on (o : StOk l s v) {i : Nat} (hi : i < l.length) : ∀ k, k ≤ l.length → ∀ x ∈ risRow (tS l) (hS l s v) i k, OnL s x
  | 0, _, x, hx => absurd hx (List.not_mem_nil)
  | k + 1, hk, x, hx => by
    rcases List.mem_append.1 (show x ∈ risRow (tS l) (hS l s v) i k ++ rp (tS l) (hS l s v) i k from hx) with h | h
    · exact row_on o hi k (by omega) x h
    · exact rp_on o hi (by omega) x h
theorem all_on (o : StOk l s v) : ∀ m, m ≤ l.length → ∀ x ∈ risAll (tS l) (hS l s v) m, OnL s x
  | 0, _, x, hx => absurd hx (List.not_mem_nil)
  | m + 1, hm, x, hx => by
    rcases List.mem_append.1 (show x ∈ risAll (tS l) (hS l s v) m ++ risRow (tS l) (hS l s v) m m from hx) with h | h
    · exact all_on o m (by omega) x h
    · exact row_on o (by omega) m (by omega) x h
theorem rrow_nil {t h : List Int} {i : Nat} : ∀ k, (∀ j, j < k → nth t i = nth t j) → risRow t h i k = []
  | 0, _ => rfl
  | k + 1, e => by
    show risRow t h i k ++ rp t h i k = []
    have := e k (by omega)
    rw [rrow_nil k (fun j hj => e j (by omega)), rp_nil (by omega) (by omega)]; rfl
theorem all_nil {t h : List Int} : ∀ m, (∀ i, i < m → nth t i = nth t 0) → risAll t h m = []
  | 0, _ => rfl
  | m + 1, e => by
    show risAll t h m ++ risRow t h m m = []
    rw [all_nil m (fun i hi => e i (by omega)), rrow_nil m (fun j hj => by rw [e m (by omega), e j (by omega)])]; rfl
theorem rp_ne {t h : List Int} {i k : Nat} (e : nth t i ≠ nth t k) : rp t h i k ≠ [] := by
  by_cases c1 : 0 < nth t i - nth t k
  · rw [rp_pos c1]; simp
  · rw [rp_neg (by omega)]; simp
theorem row_ne {t h : List Int} {i j : Nat} (e : nth t i ≠ nth t j) : ∀ k, j < k → risRow t h i k ≠ []
  | 0, hj => absurd hj (Nat.not_lt_zero j)
  | k + 1, hj => by
    show risRow t h i k ++ rp t h i k ≠ []
    by_cases hk : j = k
    · subst hk
      intro h0
      exact rp_ne e (List.append_eq_nil_iff.1 h0).2
    · intro h0
      exact row_ne e k (by omega) (List.append_eq_nil_iff.1 h0).1
theorem all_ne {t h : List Int} {i : Nat} (h0 : 0 < i) (e : nth t i ≠ nth t 0) : ∀ m, i < m → risAll t h m ≠ []
  | 0, hi => absurd hi (Nat.not_lt_zero i)
  | m + 1, hi => by
    show risAll t h m ++ risRow t h m m ≠ []
    by_cases hm : i = m
    · subst hm
      intro h1
      exact row_ne e i h0 (List.append_eq_nil_iff.1 h1).2
    · intro h1
      exact all_ne h0 e m (by omega) (List.append_eq_nil_iff.1 h1).1
theorem st_no (o : StOk l s v) (h : ∀ i, i < l.length → nth l i = nth l 0) : lnN (tS l) (hS l s v) = 0 ∧ lnD (tS l) (hS l s v) = 0 ∧ lnK (tS l) (hS l s v) = 0 ∧ lnE (tS l) (hS l s v) = 12 := by
  refine (ln_cases _ _ (st_chk o)).1 ?_
  rw [tS_len]
  refine all_nil _ fun i hi => ?_
  rw [tS_nth hi, tS_nth (by omega), h i hi]
theorem st_yes (o : StOk l s v) {i : Nat} (hi : i < l.length) (h : nth l i ≠ nth l 0) : lnN (tS l) (hS l s v) = s ∧ lnD (tS l) (hS l s v) = 1 ∧ lnK (tS l) (hS l s v) = v ∧ lnE (tS l) (hS l s v) = 0 := by
  have hne : risAll (tS l) (hS l s v) (tS l).length ≠ [] := by
    rw [tS_len]
    have h0 : 0 < i := Nat.pos_of_ne_zero fun e => h (by rw [e])
    refine all_ne h0 ?_ _ hi
    rw [tS_nth hi, tS_nth (by omega)]; omega
  have hp := List.length_pos_iff.2 hne
  obtain ⟨x, hx⟩ : ∃ x, (srtR (risAll (tS l) (hS l s v) (tS l).length))[((risAll (tS l) (hS l s v) (tS l).length).length - 1) / 2]? = some x := ⟨_, List.getElem?_eq_getElem (by rw [srtR_len]; omega)⟩
  have hL := (ln_cases _ _ (st_chk o)).2 _ x (srtR_perm _) (srtR_pair _) hx
  have hon : OnL s x := all_on o (tS l).length (by rw [tS_len]; exact Nat.le_refl _) x ((srtR_perm _).mem_iff.1 (List.mem_of_getElem? hx))
  unfold OnL at hon
  rw [hon] at hL
  have hxt : 0 < x.1.t := by have := x.2; omega
  obtain ⟨w1, w2⟩ := mk_whole (s := s) hxt
  have w3 : mkBig (s * x.1.t) x.1.t = false := by
    obtain ⟨-, -, h3⟩ := mk_same (a := s * x.1.t) (b := x.1.t) (c := s) (d := 1) hxt (by omega) (by rw [Int.mul_one])
    rw [h3]
    unfold mkBig
    have e : Nat.gcd s.natAbs (1 : Int).natAbs = 1 := by show Nat.gcd s.natAbs 1 = 1; exact Nat.gcd_one_right _
    have := o.s1
    rw [e, Nat.div_one]
    simp
    omega
  rw [w1, w2] at hL
  have hs : slpB s 1 = true := by unfold slpB; have := o.s1; rw [decide_eq_true_eq]; omega
  obtain ⟨a1, a2, a3, a4⟩ := hL.2 w3 hs
  refine ⟨a1, a2, ?_, a4⟩
  rw [a3, st_res]
  have hm := medI_mem (l := List.replicate (tS l).length v) (by have := o.l1; rw [tS_len]; intro e; have h9 := congrArg List.length e; rw [List.length_replicate, List.length_nil] at h9; omega)
  exact (List.mem_replicate.1 hm).2
end Go.Proofs.YtejmgdpgngjiiaaGreat
/- ratio.Valid; average.Residuals. -/
namespace Go.Proofs.YtejmgdpgngjiiaaGreat
open Go.RowKit

/-- A valid fraction. -/
def fracB (n d : Int) : Bool := decide (1 ≤ d) && (decide (d ≤ 1073741824) && (decide (-1073741824 ≤ n) && (decide (n ≤ 1073741824) && (Nat.gcd n.natAbs d.natAbs == 1))))
theorem fracB_ok {n d : Int} (h : fracB n d = true) : SlOk n d := by
  unfold fracB at h
  simp only [Bool.and_eq_true, decide_eq_true_eq] at h
  exact ⟨h.2.2.1, h.2.2.2.1, h.1, h.2.1⟩
set_option maxHeartbeats 2000000 in
set_option maxRecDepth 100000 in
theorem rt_Valid (n d : Int) (w : World) :
    Calls Tryz.prog 67 #[(.agg #[.int .i64 (n), .int .i64 (d)])] w fun e w' => e = .returned (.bool (fracB n d)) ∧ ∃ d, w' = bw w d := by
  unfold fracB
  by_cases c1 : 1 ≤ d
  · have d1 := decide_eq_true c1
    rw [d1, Bool.true_and]
    by_cases c2 : d ≤ 1073741824
    · have d2 := decide_eq_true c2
      rw [d2, Bool.true_and]
      by_cases c3 : -1073741824 ≤ n
      · have d3 := decide_eq_true c3
        rw [d3, Bool.true_and]
        by_cases c4 : n ≤ 1073741824
        · have d4 := decide_eq_true c4
          rw [d4, Bool.true_and]
          have HA := Lib.hid (fun W => rt_size n W (by omega) (by omega))
          have HB := Lib.hid (fun W => rt_size d W (by omega) (by omega))
          have HG := Lib.hid (fun W => rt_gcd n.natAbs d.natAbs W (by omega) (by omega))
          obtain ⟨g, hg⟩ : ∃ g, Nat.gcd n.natAbs d.natAbs = g := ⟨_, rfl⟩
          rw [hg] at HG
          have e : (Nat.gcd n.natAbs d.natAbs == 1) = ((g : Int) == 1) := by rw [hg, Bool.eq_iff_iff]; simp; omega
          rw [e]
          clear hg e
          generalize n.natAbs = p at *
          generalize d.natAbs = q at *
          refine lay_start ?_
          go_enter Tryz.func67, Tryz.ntmps67
          go_wp2_with fail
          refine region_bw (by kernel_rfl) (by kernel_rfl) ?_
          repeat (go_big_quiet_step ((first | (go_at_call 100; first | (with_reducible refine bq (HA.out _) ?_; exact (fun d => lay_join _ _ _ d)) | (with_reducible refine bq (HB.out _) ?_; exact (fun d => lay_join _ _ _ d))) | (go_at_call 101; exact bq (HG.out _) (fun d => lay_join _ _ _ d)))))
          refine wpQuiet_nil ?_
          rintro w' ⟨d, rfl⟩
          rw [lay_bw]
          go_wp2_with fail
          go_ret
          exact ⟨rfl, lay_ex _ _⟩
        · have d4 := decide_eq_false c4
          rw [d4, Bool.false_and]
          refine lay_start ?_
          go_enter Tryz.func67, Tryz.ntmps67
          go_wp2_with fail
          refine region_bw (by kernel_rfl) (by kernel_rfl) ?_
          repeat (go_big_quiet_step ((first | fail)))
          refine wpQuiet_nil ?_
          rintro w' ⟨d, rfl⟩
          rw [lay_bw]
          go_wp2_with fail
          go_ret
          exact ⟨rfl, lay_ex _ _⟩
      · have d3 := decide_eq_false c3
        rw [d3, Bool.false_and]
        refine lay_start ?_
        go_enter Tryz.func67, Tryz.ntmps67
        go_wp2_with fail
        refine region_bw (by kernel_rfl) (by kernel_rfl) ?_
        repeat (go_big_quiet_step ((first | fail)))
        refine wpQuiet_nil ?_
        rintro w' ⟨d, rfl⟩
        rw [lay_bw]
        go_wp2_with fail
        go_ret
        exact ⟨rfl, lay_ex _ _⟩
    · have d2 := decide_eq_false c2
      rw [d2, Bool.false_and]
      refine lay_start ?_
      go_enter Tryz.func67, Tryz.ntmps67
      go_wp2_with fail
      refine region_bw (by kernel_rfl) (by kernel_rfl) ?_
      repeat (go_big_quiet_step ((first | fail)))
      refine wpQuiet_nil ?_
      rintro w' ⟨d, rfl⟩
      rw [lay_bw]
      go_wp2_with fail
      go_ret
      exact ⟨rfl, lay_ex _ _⟩
  · have d1 := decide_eq_false c1
    rw [d1, Bool.false_and]
    refine lay_start ?_
    go_enter Tryz.func67, Tryz.ntmps67
    go_wp2_with fail
    refine region_bw (by kernel_rfl) (by kernel_rfl) ?_
    repeat (go_big_quiet_step ((first | fail)))
    refine wpQuiet_nil ?_
    rintro w' ⟨d, rfl⟩
    rw [lay_bw]
    go_wp2_with fail
    go_ret
    exact ⟨rfl, lay_ex _ _⟩
/-- The error and the residuals. -/
def rsdE (t h : List Int) (n d : Int) : Int := if fracB n d = false then 1 else if chkE t h ≠ 0 then chkE t h else if slpB n d = false then 2 else 0
def rsdL (t h : List Int) (n d : Int) : List Int := if rsdE t h n d = 0 then resK t h n d t.length else []
theorem rsdL_ne {t h : List Int} {n d : Int} (e : rsdE t h n d ≠ 0) : rsdL t h n d = [] := if_neg e
theorem rsdL_eq {t h : List Int} {n d : Int} (e : rsdE t h n d = 0) : rsdL t h n d = resK t h n d t.length := if_pos e
set_option maxHeartbeats 1000000 in
set_option maxRecDepth 100000 in
theorem av_Residuals (vt vh : Value) (t h : List Int) (n d : Int) (w : World) (ht : Sl w vt t) (hh : Sl w vh h) :
    Calls Tryz.prog 30 #[vt, vh, (.agg #[.int .i64 (n), .int .i64 (d)])] w (RwE w (rsdL t h n d) (rsdE t h n d)) := by
  have HV := Lib.hid (fun W => rt_Valid n d W)
  have HC := Lib.hid (fun W (q1 : Sl W vt t) (q2 : Sl W vh h) => av_check vt vh t h W q1 q2)
  have HT := Lib.hid ht
  have HH := Lib.hid hh
  obtain ⟨a1, c1, hvt, -⟩ := ht
  obtain ⟨a2, c2, hvh, -⟩ := hh
  cases hf : fracB n d
  · rw [hf] at HV
    have he : rsdE t h n d = 1 := if_pos hf
    rw [rsdL_ne (by rw [he]; decide), he]
    subst hvt hvh
    clear hf he
    refine lay_start ?_
    go_enter Tryz.func30, Tryz.ntmps30
    go_wp2_with (go_at_call 67; refine (HV.out _).mono ?_; rintro e w' ⟨rfl, dA, rfl⟩)
    go_ret2
    exact rwe_nil rfl
  · rw [hf] at HV
    have hE : rsdE t h n d = if chkE t h ≠ 0 then chkE t h else if slpB n d = false then 2 else 0 := if_neg (by rw [hf]; decide)
    have hO := fracB_ok hf
    by_cases hc : chkE t h = 0
    · rw [if_neg (fun h => h hc)] at hE
      rw [hc] at HC
      have HS := Lib.hid (fun W => av_slopes n d W hO)
      obtain ⟨hl, h1, hn, bt, bh⟩ := chk_bd hc
      cases hs : slpB n d
      · rw [if_pos hs] at hE
        rw [hs] at HS
        rw [rsdL_ne (by rw [hE]; decide), hE]
        subst hvt hvh
        clear hf hE hs hc bt bh hO hl h1 hn
        refine lay_start ?_
        go_enter Tryz.func30, Tryz.ntmps30
        go_wp2_with (first | (go_at_call 67; refine (HV.out _).mono ?_; rintro e w' ⟨rfl, dA, rfl⟩) | (go_at_call 57; refine (HC.out _ (HT.out.lay _) (HH.out.lay _)).mono ?_; rintro e w' ⟨rfl, dB, rfl⟩) | (go_at_call 61; refine (HS.out _).mono ?_; rintro e w' ⟨rfl, dC, rfl⟩))
        go_ret2
        exact rwe_nil rfl
      · rw [if_neg (by rw [hs]; decide)] at hE
        rw [hs] at HS
        rw [rsdL_eq hE, hE]
        have HR := Lib.hid (fun W (q1 : Sl W vt t) (q2 : Sl W vh h) => av_residuals vt vh t h n d W q1 q2 hl h1 (by omega) (fun i hi => by have := bt i hi; omega) (fun i hi => by have := bh i hi; omega) hO)
        generalize resK t h n d t.length = RES at *
        subst hvt hvh
        clear hf hE hs hc bt bh hO hl h1 hn
        refine lay_start ?_
        go_enter Tryz.func30, Tryz.ntmps30
        go_wp2_with (first | (go_at_call 67; refine (HV.out _).mono ?_; rintro e w' ⟨rfl, dA, rfl⟩) | (go_at_call 57; refine (HC.out _ (HT.out.lay _) (HH.out.lay _)).mono ?_; rintro e w' ⟨rfl, dB, rfl⟩) | (go_at_call 61; refine (HS.out _).mono ?_; rintro e w' ⟨rfl, dC, rfl⟩))
        refine (HR.out _ (HT.out.lay _) (HH.out.lay _)).mono ?_
        rintro e w' ⟨v, dD, rfl, rfl, hv⟩
        rw [lay_bw] at hv ⊢
        have HV2 := Lib.hid hv
        clear hv
        go_wp2_with fail
        go_ret2
        obtain ⟨y, hy⟩ := lay_ex w [.inr dD, .inr dC, .inr dB, .inr dA, .inl (.cells #[.int .i64 n, .int .i64 d] 35 (0, 0))]
        exact ⟨_, y, rfl, hy, by rw [← hy]; exact HV2.out.le (lay_below (w := w) (A := [.inr dC, .inr dB, .inr dA, .inl (.cells #[.int .i64 n, .int .i64 d] 35 (0, 0))]) (B := [])).size⟩
    · rw [if_pos hc] at hE
      rw [rsdL_ne (by rw [hE]; exact hc), hE]
      have t1 : (chkE t h == 0) = false := beq_eq_false_iff_ne.2 hc
      have t2 : (chkE t h != 0) = true := by rw [bne, t1]; rfl
      subst hvt hvh
      clear hf hE hO hc
      generalize chkE t h = E at *
      refine lay_start ?_
      go_enter Tryz.func30, Tryz.ntmps30
      go_wp2_with (first | (go_at_call 67; refine (HV.out _).mono ?_; rintro e w' ⟨rfl, dA, rfl⟩) | (go_at_call 57; refine (HC.out _ (HT.out.lay _) (HH.out.lay _)).mono ?_; rintro e w' ⟨rfl, dB, rfl⟩))
      go_ret2
      exact rwe_nil rfl
end Go.Proofs.YtejmgdpgngjiiaaGreat
/- The law AverageStraight. -/
namespace Go.Proofs.YtejmgdpgngjiiaaGreat
open Go.RowKit

/-- Two rows that grow side by side. -/
structure TwR (W : World) (base : Nat) (v1 v2 : Value) (l1 l2 : List Int) : Prop where
  o1 : Ow W base v1 l1
  o2 : Ow W base v2 l2
  a12 : Aprt v1 v2
theorem TwR.nil (W : World) (base : Nat) : TwR W base (.slice none 0 0) (.slice none 0 0) [] [] := ⟨Ow.nil _ _, Ow.nil _ _, Aprt.nil _⟩
theorem TwR.on {w : World} {base : Nat} {v1 v2 : Value} {l1 l2 : List Int} {A B : List (Obj ⊕ Ext)} (h : TwR (lay w B) base v1 v2 l1 l2) : TwR (lay w (A ++ B)) base v1 v2 l1 l2 := ⟨ow_on h.o1, ow_on h.o2, h.a12⟩
theorem TwR.others1 {W : World} {base : Nat} {v1 v2 : Value} {l1 l2 : List Int} (h : TwR W base v1 v2 l1 l2) : ∀ u ∈ [(v2, l2)], Ow W base u.1 u.2 ∧ Aprt v1 u.1 := by
  intro u hu
  rw [List.mem_singleton.1 hu]; exact ⟨h.o2, h.a12⟩
theorem TwR.others2 {W : World} {base : Nat} {v1 v2 : Value} {l1 l2 : List Int} (h : TwR W base v1 v2 l1 l2) : ∀ u ∈ [(v1, l1)], Ow W base u.1 u.2 ∧ Aprt v2 u.1 := by
  intro u hu
  rw [List.mem_singleton.1 hu]; exact ⟨h.o1, h.a12.symm⟩
theorem twR1 {W : World} {base : Nat} {v1 v2 : Value} {l1 l2 : List Int} (h1 : Ow W base v1 l1) (h : ∀ u ∈ [(v2, l2)], Ow W base u.1 u.2 ∧ Aprt v1 u.1) : TwR W base v1 v2 l1 l2 :=
  ⟨h1, (h (v2, l2) (by simp)).1, (h (v2, l2) (by simp)).2⟩
theorem twR2 {W : World} {base : Nat} {v1 v2 : Value} {l1 l2 : List Int} (h1 : Ow W base v2 l2) (h : ∀ u ∈ [(v1, l1)], Ow W base u.1 u.2 ∧ Aprt v2 u.1) : TwR W base v1 v2 l1 l2 :=
  ⟨(h (v1, l1) (by simp)).1, h1, (h (v1, l1) (by simp)).2.symm⟩
/-- Whether one of the first elements is not the first one. -/
def difB (l : List Int) (k : Nat) : Bool := (l.take k).any fun x => x != nth l 0
theorem difB_succ {l : List Int} {k : Nat} (h : k < l.length) : difB l (k + 1) = (difB l k || (nth l k != nth l 0)) := by
  unfold difB
  rw [take_nth h, List.any_append]
  simp
theorem difB_no {l : List Int} {k : Nat} (h : difB l k = false) : ∀ i, i < k → i < l.length → nth l i = nth l 0 := by
  intro i hi hl
  unfold difB at h
  have := List.any_eq_false.1 h (nth l i) (by
    rw [nth_lt hl]
    exact List.mem_take_iff_getElem.2 ⟨i, by omega, rfl⟩)
  simpa using this
theorem difB_yes {l : List Int} {k : Nat} (h : difB l k = true) : ∃ i, i < l.length ∧ nth l i ≠ nth l 0 := by
  unfold difB at h
  obtain ⟨x, hx, hn⟩ := List.any_eq_true.1 h
  obtain ⟨i, hi, e⟩ := List.getElem_of_mem (List.mem_of_mem_take hx)
  refine ⟨i, hi, ?_⟩
  rw [nth_lt hi, e]
  simpa using hn
theorem lit_k8 {n : Int} (h : (Lit.int .i8 n).wf = true) : -128 ≤ n ∧ n ≤ 127 := by
  simp [Lit.wf, IntKind.min, IntKind.max, IntKind.signed, IntKind.bits] at h
  omega
theorem st_Resid {l : List Int} {s v : Int} (o : StOk l s v) (v1 v2 : Value) (W : World) (h1 : Sl W v1 (tS l)) (h2 : Sl W v2 (hS l s v)) :
    Calls Tryz.prog 30 #[v1, v2, (.agg #[.int .i64 (s), .int .i64 (1)])] W (RwE W (List.replicate l.length v) 0) := by
  have h := av_Residuals v1 v2 _ _ s 1 W h1 h2
  have hs := o.s1
  have hf : fracB s 1 = true := by
    unfold fracB
    have e : Nat.gcd s.natAbs (1 : Int).natAbs = 1 := by show Nat.gcd s.natAbs 1 = 1; exact Nat.gcd_one_right _
    rw [e]
    simp; omega
  have hsl : slpB s 1 = true := by unfold slpB; rw [decide_eq_true_eq]; omega
  have e : rsdE (tS l) (hS l s v) s 1 = 0 := by unfold rsdE; rw [hf, st_chk o, hsl]; decide
  rw [rsdL_eq e, e, st_res, tS_len] at h
  exact h
set_option maxHeartbeats 4000000 in
set_option maxRecDepth 100000 in
theorem law23_Straight {w : World} (v : Value) (l : List Int) (hs : LstK .i8 w v l) (s : Int) (hs8 : (Lit.int .i8 s).wf = true) (lv : Int) (hlv : (Lit.int .i16 lv).wf = true) :
    Calls Tryz.prog 8 #[v, .int .i8 s, .int .i16 lv] w fun e w' => e = .returned (.bool true) ∧ ∃ d, w' = bw w d := by
  obtain ⟨a, cap, rfl, hcap, hwf, hcell⟩ := hs
  by_cases hz : l.length = 0
  · have t1 : ((l.length : Int) == 0) = true := beq_iff_eq.2 (by omega)
    clear hwf hcell hz
    generalize l.length = m at *
    refine lay_start ?_
    go_enter Tryz.func8, Tryz.ntmps8
    go_wp2_with (go_at_call 12; refine (law23_awake _).mono ?_; rintro e w' ⟨rfl, dA, rfl⟩)
    go_ret
    exact ⟨rfl, lay_ex _ _⟩
  · have t1 : ((l.length : Int) == 0) = false := beq_eq_false_iff_ne.2 (by omega)
    by_cases h16 : 16 < l.length
    · have t2 : (16 : Int) < (l.length : Int) := by omega
      clear hwf hcell hz h16
      generalize l.length = m at *
      refine lay_start ?_
      go_enter Tryz.func8, Tryz.ntmps8
      go_wp2_with (go_at_call 12; refine (law23_awake _).mono ?_; rintro e w' ⟨rfl, dA, rfl⟩)
      go_ret
      exact ⟨rfl, lay_ex _ _⟩
    · have t2 : ¬ (16 : Int) < (l.length : Int) := by omega
      have t3 : decide ((16 : Int) < (l.length : Int)) = false := decide_eq_false t2
      obtain ⟨b, o, rfl, hb, hr⟩ := hcell (by intro e; rw [e] at hz; exact hz rfl)
      have hok : StOk l s lv := ⟨by omega, by omega, fun i hi => lit_k8 (hwf i hi), lit_k8 hs8, lit_k16 hlv⟩
      have hx0 := hok.x
      have hsx := fun i (hi : i < l.length) => hok.sx hi
      have hs1 := hok.s1
      have hv1 := hok.v1
      have HR := Lib.hid (st_Resid hok)
      have HLn := Lib.hid (fun v1 v2 W (q1 : Sl W v1 (tS l)) (q2 : Sl W v2 (hS l s lv)) => av_Line v1 v2 (tS l) (hS l s lv) W q1 q2)
      have HNo := Lib.hid (fun (h : ∀ i, i < l.length → nth l i = nth l 0) => st_no hok h)
      have HYes := Lib.hid (fun (h : ∃ i, i < l.length ∧ nth l i ≠ nth l 0) => st_yes hok h.choose_spec.1 h.choose_spec.2)
      have HTn := Lib.hid (fun i (hi : i < l.length) => tS_nth hi)
      have HHn := Lib.hid (fun i (hi : i < l.length) => hS_nth (s := s) (v := lv) hi)
      have HTl := Lib.hid (tS_len l)
      have HHl := Lib.hid (hS_len l s lv)
      have HX := Lib.hid hx0
      have HSX := Lib.hid hsx
      obtain ⟨m, hm⟩ : ∃ m, l.length = m := ⟨_, rfl⟩
      have HL := Lib.hid hm
      have hl1 : 1 ≤ m := by omega
      have hl2 : m ≤ 16 := by omega
      rw [hm] at t1 t2 t3 hr hcap HR HNo HTn HHn HTl HHl HX HSX ⊢
      have HC := Lib.hid hr
      have c00 := hr 0 (by omega)
      rw [Nat.add_zero] at c00
      have u1 : IntKind.i64.wrap s = s := IntWalk.i64_in _ (by omega)
      have u2 : IntKind.i64.wrap lv = lv := IntWalk.i64_in _ (by omega)
      clear hr hz h16 hwf hcell hm hs8 hlv hok hx0 hsx
      generalize tS l = TL at *
      generalize hS l s lv = HLs at *
      refine lay_start ?_
      go_enter Tryz.func8, Tryz.ntmps8
      go_wp2_with (go_at_call 12; refine (law23_awake _).mono ?_; rintro e w' ⟨rfl, dA, rfl⟩)
      go_loopw [7, 8, 9, 31] (fun v7 v8 v9 v31 wr => ∃ (k : Nat) (dd : Ext), k ≤ m ∧ v31 = .int .i64 (k : Int) ∧ v9 = .bool (difB l k) ∧ wr = lay w [.inr dd] ∧ TwR (lay w [.inr dd]) (lay w []).heap.size v7 v8 (TL.take k) (HLs.take k)) (fun _ _ _ v31 _ => m - (intOf v31).toNat)
      case atStart => exact ⟨0, dA, Nat.zero_le _, rfl, rfl, rfl, TwR.nil _ _⟩
      case round =>
        obtain ⟨k, dd, hk, rfl, rfl, rfl, hO⟩ := hrel
        have HO := Lib.hid hO
        clear hO
        by_cases hlt : k < m
        · have e1 := HC.out k hlt
          have x1 : (k : Int) < (m : Int) := by omega
          have x0 : (0 : Int) ≤ (k : Int) := by omega
          have x2 : (0 : Int) < (m : Int) := by omega
          have T1 := Lib.hid (take_nth (l := TL) (k := k) (by rw [HTl.out]; exact hlt))
          have T2 := Lib.hid (take_nth (l := HLs) (k := k) (by rw [HHl.out]; exact hlt))
          rw [HTn.out k hlt] at T1
          rw [HHn.out k hlt] at T2
          have HDf := Lib.hid (difB_succ (l := l) (k := k) (by rw [HL.out]; exact hlt))
          have n1 : (TL.take k).length ≤ 1000000000 := by rw [List.length_take]; omega
          have n2 : (HLs.take k).length ≤ 1000000000 := by rw [List.length_take]; omega
          have bx := HX.out k hlt
          have bsx := HSX.out k hlt
          obtain ⟨x, hx⟩ : ∃ x, nth l k = x := ⟨_, rfl⟩
          obtain ⟨xz, hxz⟩ : ∃ x, nth l 0 = x := ⟨_, rfl⟩
          rw [hx] at T1 T2 e1 bx bsx HDf
          rw [hxz] at HDf c00
          obtain ⟨sx, hsx⟩ : ∃ sx, s * x = sx := ⟨_, rfl⟩
          rw [hsx] at T2 bsx
          have q1 : IntKind.i64.wrap x = x := IntWalk.i64_in _ (by omega)
          have q2 : IntKind.i64.wrap (1000 * x) = 1000 * x := IntWalk.i64_in _ (by omega)
          have q3 : IntKind.i64.wrap (s * x) = sx := by rw [hsx]; exact IntWalk.i64_in _ (by omega)
          have q4 : IntKind.i64.wrap (lv + sx) = lv + sx := IntWalk.i64_in _ (by omega)
          have lw1 : (Lit.int .i64 (1000 * x)).wf = true := lit_b (by omega)
          have lw2 : (Lit.int .i64 (lv + sx)).wf = true := lit_b (by omega)
          clear hx hxz hsx
          generalize TL.take k = L1 at *
          generalize HLs.take k = L2 at *
          cases hD : difB l k
          · rw [hD] at HDf
            cases hE : (x != xz)
            · rw [hE] at HDf
              have hE2 : (x == xz) = true := by simpa [bne] using hE
              clear hD
              go_wp2_with (first | (at_builtin; refine push_intO rfl (.tmp 35) (.tmp 39) rfl (lay w []) _ (1000 * x) 3 _ _ _ _ ?_ (ow_on (A := [_]) HO.out.o1) (HO.out.on (A := [_])).others1 ?_ rfl rfl n1 lw1 ?_; exact lay_below (A := [_, _]); exact lay_get w _ 0 _ rfl; intro v1 d1 h1 g1; replace h1 := Lib.hid (twR1 h1 g1)) | (at_builtin; refine push_intO rfl (.tmp 41) (.tmp 50) rfl (lay w []) _ (lv + sx) 3 _ _ _ _ ?_ (ow_on (A := [_]) (B := [.inr d1]) h1.out.o2) (TwR.on (A := [_]) (B := [.inr d1]) h1.out).others2 ?_ rfl rfl n2 lw2 ?_; exact lay_below (A := [_, _]); exact lay_get w _ 0 _ rfl; intro v2 d2 h2 g2; replace h2 := Lib.hid (twR2 h2 g2)))
              go_roundw
              case rel => exact ⟨k + 1, d2, hlt, by go_num, by rw [HDf.out]; rfl, rfl, by rw [T1.out, T2.out]; exact h2.out⟩
              case measure => simp [intOf]; omega
            · rw [hE] at HDf
              have hE2 : (x == xz) = false := by simpa [bne] using hE
              clear hD
              go_wp2_with (first | (at_builtin; refine push_intO rfl (.tmp 35) (.tmp 39) rfl (lay w []) _ (1000 * x) 3 _ _ _ _ ?_ (ow_on (A := [_]) HO.out.o1) (HO.out.on (A := [_])).others1 ?_ rfl rfl n1 lw1 ?_; exact lay_below (A := [_, _]); exact lay_get w _ 0 _ rfl; intro v1 d1 h1 g1; replace h1 := Lib.hid (twR1 h1 g1)) | (at_builtin; refine push_intO rfl (.tmp 41) (.tmp 50) rfl (lay w []) _ (lv + sx) 3 _ _ _ _ ?_ (ow_on (A := [_]) (B := [.inr d1]) h1.out.o2) (TwR.on (A := [_]) (B := [.inr d1]) h1.out).others2 ?_ rfl rfl n2 lw2 ?_; exact lay_below (A := [_, _]); exact lay_get w _ 0 _ rfl; intro v2 d2 h2 g2; replace h2 := Lib.hid (twR2 h2 g2)))
              go_roundw
              case rel => exact ⟨k + 1, d2, hlt, by go_num, by rw [HDf.out]; rfl, rfl, by rw [T1.out, T2.out]; exact h2.out⟩
              case measure => simp [intOf]; omega
          · rw [hD] at HDf
            clear hD
            go_wp2_with (first | (at_builtin; refine push_intO rfl (.tmp 35) (.tmp 39) rfl (lay w []) _ (1000 * x) 3 _ _ _ _ ?_ (ow_on (A := [_]) HO.out.o1) (HO.out.on (A := [_])).others1 ?_ rfl rfl n1 lw1 ?_; exact lay_below (A := [_, _]); exact lay_get w _ 0 _ rfl; intro v1 d1 h1 g1; replace h1 := Lib.hid (twR1 h1 g1)) | (at_builtin; refine push_intO rfl (.tmp 41) (.tmp 50) rfl (lay w []) _ (lv + sx) 3 _ _ _ _ ?_ (ow_on (A := [_]) (B := [.inr d1]) h1.out.o2) (TwR.on (A := [_]) (B := [.inr d1]) h1.out).others2 ?_ rfl rfl n2 lw2 ?_; exact lay_below (A := [_, _]); exact lay_get w _ 0 _ rfl; intro v2 d2 h2 g2; replace h2 := Lib.hid (twR2 h2 g2)))
            go_roundw
            case rel => exact ⟨k + 1, d2, hlt, by go_num, by rw [HDf.out]; rfl, rfl, by rw [T1.out, T2.out]; exact h2.out⟩
            case measure => simp [intOf]; omega
        · obtain rfl : k = m := by omega
          rw [show TL.take k = TL by rw [← HTl.out, List.take_length], show HLs.take k = HLs by rw [← HHl.out, List.take_length]] at HO
          have x9 : ¬ (k : Int) < (k : Int) := by omega
          obtain ⟨a7, c7, hv7⟩ := HO.out.o1.form
          rw [HTl.out] at hv7
          subst hv7
          go_wp2_with (first | (go_at_call 24; refine (law23_whole _ _).mono ?_; rintro e w' ⟨rfl, dW, rfl⟩))
          refine (HR.out _ _ _ (sl_on (A := [_]) HO.out.o1.sl) (sl_on (A := [_]) HO.out.o2.sl)).mono ?_
          rintro e w' ⟨vr, dR, rfl, rfl, hr⟩
          rw [lay_bw] at hr ⊢
          obtain ⟨gr, cr, hvr, -, -, -⟩ := hr.form1 (by rw [List.length_replicate]; exact hl1)
          rw [List.length_replicate] at hvr
          subst hvr
          have HRr := Lib.hid (fun j (hj : j < k) => show (lay w [.inr dR, .inr dW, .inr dd]).cell? ⟨gr, j, none⟩ = some (.int .i64 lv) by
            have h := hr.cell (i := j) (by rw [List.length_replicate]; exact hj)
            rw [nth_lt (by rw [List.length_replicate]; exact hj), List.getElem_replicate] at h
            exact h)
          clear hr
          go_wp2_with fail
          go_loopw [81] (fun v81 wr => ∃ (j : Nat), j ≤ k ∧ v81 = .int .i64 (j : Int) ∧ wr = lay w [.inr dR, .inr dW, .inr dd]) (fun v81 _ => k - (intOf v81).toNat)
          case atStart => exact ⟨0, Nat.zero_le _, rfl, rfl⟩
          case round =>
            obtain ⟨j, hj, rfl, hwr⟩ := hrel
            rw [hwr]
            by_cases hjk : j < k
            · have e2 := HRr.out j hjk
              have y1 : (j : Int) < (k : Int) := by omega
              have y0 : (0 : Int) ≤ (j : Int) := by omega
              have z1 : (lv != lv) = false := by simp
              go_wp2_with fail
              go_roundw
              case rel => exact ⟨j + 1, by omega, by go_num, by first | rfl | trivial⟩
              case measure => simp [intOf]; omega
            · obtain rfl : j = k := by omega
              have y1 : ¬ (j : Int) < (j : Int) := by omega
              cases hD : difB l j
              · obtain ⟨n1, n2, n3, n4⟩ := HNo.out (fun i hi => difB_no hD i hi (by rw [HL.out]; exact hi))
                rw [n1, n2, n3, n4] at HLn
                clear hD n1 n2 n3 n4 HNo HYes
                go_wp2_with fail
                refine (HLn.out _ _ _ (sl_on (A := [_, _]) HO.out.o1.sl) (sl_on (A := [_, _]) HO.out.o2.sl)).mono ?_
                rintro e w' ⟨rfl, dL, rfl⟩
                rw [lay_bw]
                go_wp2_with fail
                go_ret
                exact ⟨rfl, lay_ex _ _⟩
              · obtain ⟨n1, n2, n3, n4⟩ := HYes.out (difB_yes hD)
                rw [n1, n2, n3, n4] at HLn
                clear hD n1 n2 n3 n4 HNo HYes
                have z1 : (lv == lv) = true := by simp
                have z2 : (s == s) = true := by simp
                go_wp2_with fail
                refine (HLn.out _ _ _ (sl_on (A := [_, _]) HO.out.o1.sl) (sl_on (A := [_, _]) HO.out.o2.sl)).mono ?_
                rintro e w' ⟨rfl, dL, rfl⟩
                rw [lay_bw]
                go_wp2_with fail
                refine region_bw (by kernel_rfl) (by kernel_rfl) ?_
                repeat (go_big_quiet_step ((first | (go_at_call 24; exact bq (law23_whole _ _) (fun d => lay_join _ _ _ d)))))
                refine wpQuiet_nil ?_
                rintro w' ⟨d, rfl⟩
                rw [lay_bw]
                go_wp2_with fail
                go_ret
                exact ⟨rfl, lay_ex _ _⟩
end Go.Proofs.YtejmgdpgngjiiaaGreat

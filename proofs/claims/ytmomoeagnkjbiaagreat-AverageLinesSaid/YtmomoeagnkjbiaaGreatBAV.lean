/- Contracts and plain laws, several texts in one: StP; Av7; RtQ; SlG -/
import Derived.Test.YtmomoeagnkjbiaaGreatProg
import Derived.WalkKit
import Derived.WalkSpells
import Derived.WalkLawsBesides
import Derived.Lib.Hide
import Derived.BigQuiet
import Derived.Test.YtmomoeagnkjbiaaGreatBAA
import Derived.Test.YtmomoeagnkjbiaaGreatBAB
import Derived.Test.YtmomoeagnkjbiaaGreatBAI
import Derived.Test.YtmomoeagnkjbiaaGreatBAK
import Derived.Test.YtmomoeagnkjbiaaGreatBAN
import Derived.Test.YtmomoeagnkjbiaaGreatBAR
import Derived.Test.YtmomoeagnkjbiaaGreatBAU
/- Readings on a line: the plain law. -/
namespace Go.Proofs.YtmomoeagnkjbiaaGreat
open Go.RowKit

def tS (l : List Int) : List Int := l.map fun x => 1000 * x
def hS (l : List Int) (s v : Int) : List Int := l.map fun x => v + s * x
theorem tS_len (l : List Int) : (tS l).length = l.length := List.length_map _
theorem hS_len (l : List Int) (s v : Int) : (hS l s v).length = l.length := List.length_map _
theorem tS_nth {l : List Int} {i : Nat} (h : i < l.length) : nth (tS l) i = 1000 * nth l i := by
  rw [nth_lt (by rw [tS_len]; exact h), nth_lt h]; simp [tS]
theorem hS_nth {l : List Int} {s v : Int} {i : Nat} (h : i < l.length) : nth (hS l s v) i = v + s * nth l i := by
  rw [nth_lt (by rw [hS_len]; exact h), nth_lt h]; simp [hS]
structure StOk (l : List Int) (s v : Int) : Prop where
  l1 : 1 ≤ l.length
  l2 : l.length ≤ 16
  x : ∀ i, i < l.length → -128 ≤ nth l i ∧ nth l i ≤ 127
  s1 : -128 ≤ s ∧ s ≤ 127
  v1 : -32768 ≤ v ∧ v ≤ 32767
variable {l : List Int} {s v : Int}
theorem StOk.sx (o : StOk l s v) {i : Nat} (h : i < l.length) : -16384 ≤ s * nth l i ∧ s * nth l i ≤ 16384 := by
  have h1 := o.x i h
  have h2 := o.s1
  have h3 : (s * nth l i).natAbs ≤ 128 * 128 := by rw [Int.natAbs_mul]; exact Nat.mul_le_mul (by omega) (by omega)
  omega
theorem st_chk (o : StOk l s v) : chkE (tS l) (hS l s v) = 0 := by
  unfold chkE
  have h1 := o.l1; have h2 := o.l2; have h3 := o.v1
  rw [if_neg (by rw [tS_len, hS_len]; omega)]
  have e1 : outB (tS l) 86400000 = false := outB_in fun i hi => by
    rw [tS_len] at hi
    rw [tS_nth hi]; have := o.x i hi; omega
  have e2 : outB (hS l s v) 10800000 = false := outB_in fun i hi => by
    rw [hS_len] at hi
    rw [hS_nth hi]; have := o.sx hi; omega
  rw [e1, e2, if_neg (by decide)]
theorem st_res (l : List Int) (s v : Int) : resK (tS l) (hS l s v) s 1 (tS l).length = List.replicate (tS l).length v := by
  unfold resK
  refine List.ext_getElem (by simp) fun i h1 h2 => ?_
  have h3 : i < l.length := by simpa [tS_len] using h1
  rw [List.getElem_replicate, List.getElem_map, List.getElem_range, tS_nth h3, hS_nth h3]
  exact res_line v s (nth l i)
theorem mkR_ok (o : StOk l s v) {i k : Nat} (hi : i < l.length) (hk : k < l.length) (h : 0 < nth l i - nth l k) : (mkR (nth (hS l s v) i - nth (hS l s v) k) (nth (tS l) i - nth (tS l) k)).1 = ⟨s * (nth l i - nth l k), 1000 * (nth l i - nth l k)⟩ := by
  rw [tS_nth hi, tS_nth hk, hS_nth hi, hS_nth hk]
  have h1 := o.sx hi; have h2 := o.sx hk; have h3 := o.x i hi; have h4 := o.x k hk
  rw [mkR_h (by omega)]
  congr 1
  · rw [Int.mul_sub]; omega
  · omega
/-- What all quotients satisfy. -/
def OnL (s : Int) (x : RisB) : Prop := 1000 * x.1.h = s * x.1.t
theorem rp_on (o : StOk l s v) {i k : Nat} (hi : i < l.length) (hk : k < l.length) : ∀ x ∈ rp (tS l) (hS l s v) i k, OnL s x := by
  intro x hx
  have e := tS_nth hi
  have e2 := tS_nth hk
  by_cases c1 : 0 < nth (tS l) i - nth (tS l) k
  · rw [rp_pos c1, List.mem_singleton] at hx
    subst hx
    unfold OnL
    rw [mkR_ok o hi hk (by omega)]
    dsimp only
    rw [Int.mul_left_comm]
  · by_cases c2 : nth (tS l) i - nth (tS l) k < 0
    · rw [rp_neg c2, List.mem_singleton] at hx
      subst hx
      unfold OnL
      rw [show -(nth (tS l) i - nth (tS l) k) = nth (tS l) k - nth (tS l) i by omega, mkR_ok o hk hi (by omega)]
      dsimp only
      rw [Int.mul_left_comm]
    · rw [rp_nil c1 c2] at hx
      exact absurd hx (List.not_mem_nil)
theorem row_on (o : StOk l s v) {i : Nat} (hi : i < l.length) : ∀ k, k ≤ l.length → ∀ x ∈ risRow (tS l) (hS l s v) i k, OnL s x
  | 0, _, x, hx => absurd hx (List.not_mem_nil)
  | k + 1, hk, x, hx => by
    rcases List.mem_append.1 (show x ∈ risRow (tS l) (hS l s v) i k ++ rp (tS l) (hS l s v) i k from hx) with h | h
    · exact row_on o hi k (by omega) x h
    · exact rp_on o hi (by omega) x h
theorem all_on (o : StOk l s v) : ∀ m, m ≤ l.length → ∀ x ∈ risAll (tS l) (hS l s v) m, OnL s x
  | 0, _, x, hx => absurd hx (List.not_mem_nil)
  | m + 1, hm, x, hx => by
    rcases List.mem_append.1 (show x ∈ risAll (tS l) (hS l s v) m ++ risRow (tS l) (hS l s v) m m from hx) with h | h
    · exact all_on o m (by omega) x h
    · exact row_on o (by omega) m (by omega) x h
theorem rrow_nil {t h : List Int} {i : Nat} : ∀ k, (∀ j, j < k → nth t i = nth t j) → risRow t h i k = []
  | 0, _ => rfl
  | k + 1, e => by
    show risRow t h i k ++ rp t h i k = []
    have := e k (by omega)
    rw [rrow_nil k (fun j hj => e j (by omega)), rp_nil (by omega) (by omega)]; rfl
theorem all_nil {t h : List Int} : ∀ m, (∀ i, i < m → nth t i = nth t 0) → risAll t h m = []
  | 0, _ => rfl
  | m + 1, e => by
    show risAll t h m ++ risRow t h m m = []
    rw [all_nil m (fun i hi => e i (by omega)), rrow_nil m (fun j hj => by rw [e m (by omega), e j (by omega)])]; rfl
theorem rp_ne {t h : List Int} {i k : Nat} (e : nth t i ≠ nth t k) : rp t h i k ≠ [] := by
  by_cases c1 : 0 < nth t i - nth t k
  · rw [rp_pos c1]; simp
  · rw [rp_neg (by omega)]; simp
theorem row_ne {t h : List Int} {i j : Nat} (e : nth t i ≠ nth t j) : ∀ k, j < k → risRow t h i k ≠ []
  | 0, hj => absurd hj (Nat.not_lt_zero j)
  | k + 1, hj => by
    show risRow t h i k ++ rp t h i k ≠ []
    by_cases hk : j = k
    · subst hk
      intro h0
      exact rp_ne e (List.append_eq_nil_iff.1 h0).2
    · intro h0
      exact row_ne e k (by omega) (List.append_eq_nil_iff.1 h0).1
theorem all_ne {t h : List Int} {i : Nat} (h0 : 0 < i) (e : nth t i ≠ nth t 0) : ∀ m, i < m → risAll t h m ≠ []
  | 0, hi => absurd hi (Nat.not_lt_zero i)
  | m + 1, hi => by
    show risAll t h m ++ risRow t h m m ≠ []
    by_cases hm : i = m
    · subst hm
      intro h1
      exact row_ne e i h0 (List.append_eq_nil_iff.1 h1).2
    · intro h1
      exact all_ne h0 e m (by omega) (List.append_eq_nil_iff.1 h1).1
theorem st_no (o : StOk l s v) (h : ∀ i, i < l.length → nth l i = nth l 0) : lnN (tS l) (hS l s v) = 0 ∧ lnD (tS l) (hS l s v) = 0 ∧ lnK (tS l) (hS l s v) = 0 ∧ lnE (tS l) (hS l s v) = 12 := by
  refine (ln_cases _ _ (st_chk o)).1 ?_
  rw [tS_len]
  refine all_nil _ fun i hi => ?_
  rw [tS_nth hi, tS_nth (by omega), h i hi]
theorem st_yes (o : StOk l s v) {i : Nat} (hi : i < l.length) (h : nth l i ≠ nth l 0) : lnN (tS l) (hS l s v) = s ∧ lnD (tS l) (hS l s v) = 1 ∧ lnK (tS l) (hS l s v) = v ∧ lnE (tS l) (hS l s v) = 0 := by
  have hne : risAll (tS l) (hS l s v) (tS l).length ≠ [] := by
    rw [tS_len]
    have h0 : 0 < i := Nat.pos_of_ne_zero fun e => h (by rw [e])
    refine all_ne h0 ?_ _ hi
    rw [tS_nth hi, tS_nth (by omega)]; omega
  have hp := List.length_pos_iff.2 hne
  obtain ⟨x, hx⟩ : ∃ x, (srtR (risAll (tS l) (hS l s v) (tS l).length))[((risAll (tS l) (hS l s v) (tS l).length).length - 1) / 2]? = some x := ⟨_, List.getElem?_eq_getElem (by rw [srtR_len]; omega)⟩
  have hL := (ln_cases _ _ (st_chk o)).2 _ x (srtR_perm _) (srtR_pair _) hx
  have hon : OnL s x := all_on o (tS l).length (by rw [tS_len]; exact Nat.le_refl _) x ((srtR_perm _).mem_iff.1 (List.mem_of_getElem? hx))
  unfold OnL at hon
  rw [hon] at hL
  have hxt : 0 < x.1.t := by have := x.2; omega
  obtain ⟨w1, w2⟩ := mk_whole (s := s) hxt
  have w3 : mkBig (s * x.1.t) x.1.t = false := by
    obtain ⟨-, -, h3⟩ := mk_same (a := s * x.1.t) (b := x.1.t) (c := s) (d := 1) hxt (by omega) (by rw [Int.mul_one])
    rw [h3]
    unfold mkBig
    have e : Nat.gcd s.natAbs (1 : Int).natAbs = 1 := by show Nat.gcd s.natAbs 1 = 1; exact Nat.gcd_one_right _
    have := o.s1
    rw [e, Nat.div_one]
    simp
    omega
  rw [w1, w2] at hL
  have hs : slpB s 1 = true := by unfold slpB; have := o.s1; rw [decide_eq_true_eq]; omega
  obtain ⟨a1, a2, a3, a4⟩ := hL.2 w3 hs
  refine ⟨a1, a2, ?_, a4⟩
  rw [a3, st_res]
  have hm := medI_mem (l := List.replicate (tS l).length v) (by have := o.l1; rw [tS_len]; intro e; have h9 := congrArg List.length e; rw [List.length_replicate, List.length_nil] at h9; omega)
  exact (List.mem_replicate.1 hm).2
end Go.Proofs.YtmomoeagnkjbiaaGreat
/- ratio.Valid; average.Residuals. -/
namespace Go.Proofs.YtmomoeagnkjbiaaGreat
open Go.RowKit

/-- A valid fraction. -/
def fracB (n d : Int) : Bool := decide (1 ≤ d) && (decide (d ≤ 1073741824) && (decide (-1073741824 ≤ n) && (decide (n ≤ 1073741824) && (Nat.gcd n.natAbs d.natAbs == 1))))
theorem fracB_ok {n d : Int} (h : fracB n d = true) : SlOk n d := by
  unfold fracB at h
  simp only [Bool.and_eq_true, decide_eq_true_eq] at h
  exact ⟨h.2.2.1, h.2.2.2.1, h.1, h.2.1⟩
set_option maxHeartbeats 2000000 in
set_option maxRecDepth 100000 in
theorem rt_Valid (n d : Int) (w : World) :
    Calls Tryz.prog 50 #[(.agg #[.int .i64 (n), .int .i64 (d)])] w fun e w' => e = .returned (.bool (fracB n d)) ∧ ∃ d, w' = bw w d := by
  unfold fracB
  by_cases c1 : 1 ≤ d
  · have d1 := decide_eq_true c1
    rw [d1, Bool.true_and]
    by_cases c2 : d ≤ 1073741824
    · have d2 := decide_eq_true c2
      rw [d2, Bool.true_and]
      by_cases c3 : -1073741824 ≤ n
      · have d3 := decide_eq_true c3
        rw [d3, Bool.true_and]
        by_cases c4 : n ≤ 1073741824
        · have d4 := decide_eq_true c4
          rw [d4, Bool.true_and]
          have HA := Lib.hid (fun W => rt_size n W (by omega) (by omega))
          have HB := Lib.hid (fun W => rt_size d W (by omega) (by omega))
          have HG := Lib.hid (fun W => rt_gcd n.natAbs d.natAbs W (by omega) (by omega))
          obtain ⟨g, hg⟩ : ∃ g, Nat.gcd n.natAbs d.natAbs = g := ⟨_, rfl⟩
          rw [hg] at HG
          have e : (Nat.gcd n.natAbs d.natAbs == 1) = ((g : Int) == 1) := by rw [hg, Bool.eq_iff_iff]; simp; omega
          rw [e]
          clear hg e
          generalize n.natAbs = p at *
          generalize d.natAbs = q at *
          refine lay_start ?_
          go_enter Tryz.func50, Tryz.ntmps50
          go_wp2_with fail
          refine region_bw (by kernel_rfl) (by kernel_rfl) ?_
          repeat (go_big_quiet_step ((first | (go_at_call 79; first | (with_reducible refine bq (HA.out _) ?_; exact (fun d => lay_join _ _ _ d)) | (with_reducible refine bq (HB.out _) ?_; exact (fun d => lay_join _ _ _ d))) | (go_at_call 80; exact bq (HG.out _) (fun d => lay_join _ _ _ d)))))
          refine wpQuiet_nil ?_
          rintro w' ⟨d, rfl⟩
          rw [lay_bw]
          go_wp2_with fail
          go_ret
          exact ⟨rfl, lay_ex _ _⟩
        · have d4 := decide_eq_false c4
          rw [d4, Bool.false_and]
          refine lay_start ?_
          go_enter Tryz.func50, Tryz.ntmps50
          go_wp2_with fail
          refine region_bw (by kernel_rfl) (by kernel_rfl) ?_
          repeat (go_big_quiet_step ((first | fail)))
          refine wpQuiet_nil ?_
          rintro w' ⟨d, rfl⟩
          rw [lay_bw]
          go_wp2_with fail
          go_ret
          exact ⟨rfl, lay_ex _ _⟩
      · have d3 := decide_eq_false c3
        rw [d3, Bool.false_and]
        refine lay_start ?_
        go_enter Tryz.func50, Tryz.ntmps50
        go_wp2_with fail
        refine region_bw (by kernel_rfl) (by kernel_rfl) ?_
        repeat (go_big_quiet_step ((first | fail)))
        refine wpQuiet_nil ?_
        rintro w' ⟨d, rfl⟩
        rw [lay_bw]
        go_wp2_with fail
        go_ret
        exact ⟨rfl, lay_ex _ _⟩
    · have d2 := decide_eq_false c2
      rw [d2, Bool.false_and]
      refine lay_start ?_
      go_enter Tryz.func50, Tryz.ntmps50
      go_wp2_with fail
      refine region_bw (by kernel_rfl) (by kernel_rfl) ?_
      repeat (go_big_quiet_step ((first | fail)))
      refine wpQuiet_nil ?_
      rintro w' ⟨d, rfl⟩
      rw [lay_bw]
      go_wp2_with fail
      go_ret
      exact ⟨rfl, lay_ex _ _⟩
  · have d1 := decide_eq_false c1
    rw [d1, Bool.false_and]
    refine lay_start ?_
    go_enter Tryz.func50, Tryz.ntmps50
    go_wp2_with fail
    refine region_bw (by kernel_rfl) (by kernel_rfl) ?_
    repeat (go_big_quiet_step ((first | fail)))
    refine wpQuiet_nil ?_
    rintro w' ⟨d, rfl⟩
    rw [lay_bw]
    go_wp2_with fail
    go_ret
    exact ⟨rfl, lay_ex _ _⟩
/-- The error and the residuals. -/
def rsdE (t h : List Int) (n d : Int) : Int := if fracB n d = false then 1 else if chkE t h ≠ 0 then chkE t h else if slpB n d = false then 2 else 0
def rsdL (t h : List Int) (n d : Int) : List Int := if rsdE t h n d = 0 then resK t h n d t.length else []
theorem rsdL_ne {t h : List Int} {n d : Int} (e : rsdE t h n d ≠ 0) : rsdL t h n d = [] := if_neg e
theorem rsdL_eq {t h : List Int} {n d : Int} (e : rsdE t h n d = 0) : rsdL t h n d = resK t h n d t.length := if_pos e
set_option maxHeartbeats 1000000 in
set_option maxRecDepth 100000 in
theorem av_Residuals (vt vh : Value) (t h : List Int) (n d : Int) (w : World) (ht : Sl w vt t) (hh : Sl w vh h) :
    Calls Tryz.prog 19 #[vt, vh, (.agg #[.int .i64 (n), .int .i64 (d)])] w (RwE w (rsdL t h n d) (rsdE t h n d)) := by
  have HV := Lib.hid (fun W => rt_Valid n d W)
  have HC := Lib.hid (fun W (q1 : Sl W vt t) (q2 : Sl W vh h) => av_check vt vh t h W q1 q2)
  have HT := Lib.hid ht
  have HH := Lib.hid hh
  obtain ⟨a1, c1, hvt, -⟩ := ht
  obtain ⟨a2, c2, hvh, -⟩ := hh
  cases hf : fracB n d
  · rw [hf] at HV
    have he : rsdE t h n d = 1 := if_pos hf
    rw [rsdL_ne (by rw [he]; decide), he]
    subst hvt hvh
    clear hf he
    refine lay_start ?_
    go_enter Tryz.func19, Tryz.ntmps19
    go_wp2_with (go_at_call 50; refine (HV.out _).mono ?_; rintro e w' ⟨rfl, dA, rfl⟩)
    go_ret2
    exact rwe_nil rfl
  · rw [hf] at HV
    have hE : rsdE t h n d = if chkE t h ≠ 0 then chkE t h else if slpB n d = false then 2 else 0 := if_neg (by rw [hf]; decide)
    have hO := fracB_ok hf
    by_cases hc : chkE t h = 0
    · rw [if_neg (fun h => h hc)] at hE
      rw [hc] at HC
      have HS := Lib.hid (fun W => av_slopes n d W hO)
      obtain ⟨hl, h1, hn, bt, bh⟩ := chk_bd hc
      cases hs : slpB n d
      · rw [if_pos hs] at hE
        rw [hs] at HS
        rw [rsdL_ne (by rw [hE]; decide), hE]
        subst hvt hvh
        clear hf hE hs hc bt bh hO hl h1 hn
        refine lay_start ?_
        go_enter Tryz.func19, Tryz.ntmps19
        go_wp2_with (first | (go_at_call 50; refine (HV.out _).mono ?_; rintro e w' ⟨rfl, dA, rfl⟩) | (go_at_call 38; refine (HC.out _ (HT.out.lay _) (HH.out.lay _)).mono ?_; rintro e w' ⟨rfl, dB, rfl⟩) | (go_at_call 42; refine (HS.out _).mono ?_; rintro e w' ⟨rfl, dC, rfl⟩))
        go_ret2
        exact rwe_nil rfl
      · rw [if_neg (by rw [hs]; decide)] at hE
        rw [hs] at HS
        rw [rsdL_eq hE, hE]
        have HR := Lib.hid (fun W (q1 : Sl W vt t) (q2 : Sl W vh h) => av_residuals vt vh t h n d W q1 q2 hl h1 (by omega) (fun i hi => by have := bt i hi; omega) (fun i hi => by have := bh i hi; omega) hO)
        generalize resK t h n d t.length = RES at *
        subst hvt hvh
        clear hf hE hs hc bt bh hO hl h1 hn
        refine lay_start ?_
        go_enter Tryz.func19, Tryz.ntmps19
        go_wp2_with (first | (go_at_call 50; refine (HV.out _).mono ?_; rintro e w' ⟨rfl, dA, rfl⟩) | (go_at_call 38; refine (HC.out _ (HT.out.lay _) (HH.out.lay _)).mono ?_; rintro e w' ⟨rfl, dB, rfl⟩) | (go_at_call 42; refine (HS.out _).mono ?_; rintro e w' ⟨rfl, dC, rfl⟩))
        refine (HR.out _ (HT.out.lay _) (HH.out.lay _)).mono ?_
        rintro e w' ⟨v, dD, rfl, rfl, hv⟩
        rw [lay_bw] at hv ⊢
        have HV2 := Lib.hid hv
        clear hv
        go_wp2_with fail
        go_ret2
        obtain ⟨y, hy⟩ := lay_ex w [.inr dD, .inr dC, .inr dB, .inr dA, .inl (.cells #[.int .i64 n, .int .i64 d] 26 (0, 0))]
        exact ⟨_, y, rfl, hy, by rw [← hy]; exact HV2.out.le (lay_below (w := w) (A := [.inr dC, .inr dB, .inr dA, .inl (.cells #[.int .i64 n, .int .i64 d] 26 (0, 0))]) (B := [])).size⟩
    · rw [if_pos hc] at hE
      rw [rsdL_ne (by rw [hE]; exact hc), hE]
      have t1 : (chkE t h == 0) = false := beq_eq_false_iff_ne.2 hc
      have t2 : (chkE t h != 0) = true := by rw [bne, t1]; rfl
      subst hvt hvh
      clear hf hE hO hc
      generalize chkE t h = E at *
      refine lay_start ?_
      go_enter Tryz.func19, Tryz.ntmps19
      go_wp2_with (first | (go_at_call 50; refine (HV.out _).mono ?_; rintro e w' ⟨rfl, dA, rfl⟩) | (go_at_call 38; refine (HC.out _ (HT.out.lay _) (HH.out.lay _)).mono ?_; rintro e w' ⟨rfl, dB, rfl⟩))
      go_ret2
      exact rwe_nil rfl
end Go.Proofs.YtmomoeagnkjbiaaGreat
/- Rates as fractions over 1000 in lowest terms, compared: plain laws, no walk. -/
namespace Go.Proofs.YtmomoeagnkjbiaaGreat
open Go.RowKit

structure RtF (L n d : Int) : Prop where
  fr : fracB n d = true
  d1 : 1 ≤ d
  eq : n * 1000 = L * d
theorem rate_frac {L : Int} (h1 : -250000 ≤ L) (h2 : L ≤ 250000) : mkE L 1000 = 0 ∧ RtF L (mkNN L 1000) (mkDD L 1000) := by
  obtain ⟨e1, e2⟩ := mk_div (a := L) (b := 1000)
  have hg : 0 < Nat.gcd L.natAbs (1000 : Int).natAbs := Nat.gcd_pos_of_pos_right _ (by decide)
  have hco : Nat.gcd (L.natAbs / Nat.gcd L.natAbs (1000 : Int).natAbs) ((1000 : Int).natAbs / Nat.gcd L.natAbs (1000 : Int).natAbs) = 1 := by rw [Nat.gcd_div (Nat.gcd_dvd_left _ _) (Nat.gcd_dvd_right _ _)]; exact Nat.div_self hg
  have l1 : L.natAbs / Nat.gcd L.natAbs (1000 : Int).natAbs ≤ L.natAbs := Nat.div_le_self _ _
  have l2 : (1000 : Int).natAbs / Nat.gcd L.natAbs (1000 : Int).natAbs ≤ 1000 := Nat.div_le_self _ _
  have hB : mkBig L 1000 = false := by unfold mkBig; rw [decide_eq_false (by omega), decide_eq_false (by omega)]; rfl
  have hE : mkE L 1000 = 0 := by unfold mkE; rw [if_neg (by decide), hB, if_neg (by decide)]
  refine ⟨hE, ?_⟩
  have hN : mkNN L 1000 = mkN L 1000 := if_pos hE
  have hD : mkDD L 1000 = mkD L 1000 := if_pos hE
  rw [hN, hD]
  unfold mkN mkD
  rw [show decide ((1000 : Int) < 0) = false by decide, Bool.bne_false]
  obtain ⟨g, hg2⟩ : ∃ g, Nat.gcd L.natAbs (1000 : Int).natAbs = g := ⟨_, rfl⟩
  rw [hg2] at e1 e2 hg hco l1 l2 ⊢
  obtain ⟨p, hp⟩ : ∃ p, L.natAbs / g = p := ⟨_, rfl⟩
  obtain ⟨q, hq⟩ : ∃ q, (1000 : Int).natAbs / g = q := ⟨_, rfl⟩
  rw [hp, hq] at hco
  rw [hp] at e1 l1 ⊢
  rw [hq] at e2 l2 ⊢
  have e2' : q * g = 1000 := e2
  have hq0 : 0 < q := by rcases Nat.eq_zero_or_pos q with h | h; (· rw [h] at e2'; omega); exact h
  have key : p * 1000 = L.natAbs * q := by rw [← e1, ← e2', Nat.mul_assoc, Nat.mul_comm q g]
  have keyI : (p : Int) * 1000 = (L.natAbs : Int) * (q : Int) := by rw [← Int.natCast_mul, ← key, Int.natCast_mul]; rfl
  by_cases c : L < 0
  · rw [decide_eq_true c]
    refine ⟨?_, by omega, ?_⟩
    · unfold fracB
      simp only [if_true, Bool.and_eq_true, decide_eq_true_eq, beq_iff_eq, Int.natAbs_neg, Int.natAbs_natCast]
      exact ⟨by omega, by omega, by omega, by omega, hco⟩
    · simp only [if_true]
      rw [Int.neg_mul, keyI, ← Int.neg_mul]
      congr 1; omega
  · rw [decide_eq_false c]
    refine ⟨?_, by omega, ?_⟩
    · unfold fracB
      simp only [Bool.false_eq_true, if_false, Bool.and_eq_true, decide_eq_true_eq, beq_iff_eq, Int.natAbs_natCast]
      exact ⟨by omega, by omega, by omega, by omega, hco⟩
    · simp only [Bool.false_eq_true, if_false]
      rw [keyI]
      congr 1; omega
theorem whole_rt (k : Int) (h : -1000 ≤ k ∧ k ≤ 1000) : RtF (k * 1000) k 1 := ⟨by
  unfold fracB
  simp only [Bool.and_eq_true, decide_eq_true_eq, beq_iff_eq]
  exact ⟨by omega, by omega, by omega, by omega, Nat.gcd_one_right _⟩, by decide, by omega⟩
/-- What comparing two fractions gives. -/
def cmpF (n d m e : Int) : Int := if n * e < m * d then -1 else if m * d < n * e then 1 else 0
theorem rt_cross {L M n d m e : Int} (h : RtF L n d) (g : RtF M m e) (hl : L ≤ M) : n * e ≤ m * d := by
  have h1 := h.eq
  have h2 := g.eq
  have hd := h.d1
  have he := g.d1
  have h3 : n * e * 1000 = L * (d * e) := by rw [Int.mul_right_comm, h1, Int.mul_assoc]
  have h4 : m * d * 1000 = M * (d * e) := by rw [Int.mul_right_comm, h2, Int.mul_assoc, Int.mul_comm e d]
  have h5 : L * (d * e) ≤ M * (d * e) := Int.mul_le_mul_of_nonneg_right hl (Int.mul_nonneg (by omega) (by omega))
  omega
theorem rt_cmp {L M n d m e : Int} (h : RtF L n d) (g : RtF M m e) (hl : L ≤ M) : cmpF n d m e ≤ 0 ∧ 0 ≤ cmpF m e n d := by
  have := rt_cross h g hl
  unfold cmpF
  constructor
  · split
    · omega
    · rw [if_neg (by omega)]; omega
  · rw [if_neg (by omega)]
    split <;> omega
theorem rt_sign {L n d : Int} (h : RtF L n d) : (0 ≤ L → 0 ≤ n) ∧ (L ≤ 0 → n ≤ 0) := by
  have h1 := h.eq
  have hd := h.d1
  constructor
  · intro hl
    have := Int.mul_nonneg hl (show 0 ≤ d by omega)
    omega
  · intro hl
    have := Int.mul_nonpos_of_nonpos_of_nonneg hl (show 0 ≤ d by omega)
    omega
end Go.Proofs.YtmomoeagnkjbiaaGreat
/- average.Slope at all latitudes and azimuths. -/
namespace Go.Proofs.YtmomoeagnkjbiaaGreat
open Go.RowKit

def latB (lo hi : Int) : Bool := decide (-5400000 ≤ lo ∧ lo ≤ hi ∧ hi ≤ 5400000)
theorem latB_iff {lo hi : Int} : latB lo hi = true ↔ -5400000 ≤ lo ∧ lo ≤ hi ∧ hi ≤ 5400000 := by simp [latB]
/-- The rates, times 1000. -/
def slpL (l0 l1 z0 z1 : Int) : Int := sclL (mulL (encL (l0 + 5400000) (l1 + 5400000)) (encH (l0 + 5400000) (l1 + 5400000)) (encL z0 z1) (encH z0 z1))
def slpH (l0 l1 z0 z1 : Int) : Int := sclH (mulH (encL (l0 + 5400000) (l1 + 5400000)) (encH (l0 + 5400000) (l1 + 5400000)) (encL z0 z1) (encH z0 z1))
theorem slp_in {l0 l1 z0 z1 : Int} : -250000 ≤ slpL l0 l1 z0 z1 ∧ slpL l0 l1 z0 z1 ≤ slpH l0 l1 z0 z1 ∧ slpH l0 l1 z0 z1 ≤ 250000 := by
  obtain ⟨a1, a2, a3⟩ := enc_in (lo := l0 + 5400000) (hi := l1 + 5400000)
  obtain ⟨b1, b2, b3⟩ := enc_in (lo := z0) (hi := z1)
  obtain ⟨m1, m2, m3⟩ := mul_unit a1 a2 a3 b1 b2 b3
  exact scl_unit m1 m2 m3
theorem slp_part {l0 l1 z0 z1 x0 x1 y0 y1 : Int} (h1 : l0 ≤ x0) (h2 : x0 ≤ x1) (h3 : x1 ≤ l1) (g1 : z0 ≤ y0) (g2 : y0 ≤ y1) (g3 : y1 ≤ z1) : slpL l0 l1 z0 z1 ≤ slpL x0 x1 y0 y1 ∧ slpH x0 x1 y0 y1 ≤ slpH l0 l1 z0 z1 := by
  obtain ⟨c1, c2⟩ := enc_part (show l0 + 5400000 ≤ x0 + 5400000 by omega) (show x0 + 5400000 ≤ x1 + 5400000 by omega) (show x1 + 5400000 ≤ l1 + 5400000 by omega)
  obtain ⟨s1, s2⟩ := enc_part g1 g2 g3
  obtain ⟨m1, m2⟩ := mul_part c1 (enc_in (lo := x0 + 5400000) (hi := x1 + 5400000)).2.1 c2 s1 (enc_in (lo := y0) (hi := y1)).2.1 s2
  exact ⟨(scl_mono m1).1, (scl_mono m2).2⟩
theorem slp_east {l0 l1 z0 z1 : Int} (hl : latB l0 l1 = true) (h0 : 0 ≤ z0) (h : z0 ≤ z1) (h1 : z1 ≤ 10800000) : 0 ≤ slpL l0 l1 z0 z1 := by
  have hl := latB_iff.1 hl
  exact scl_pos (mul_pos (enc_pos (show 0 ≤ l0 + 5400000 by omega) (by omega) (by omega)) (enc_in).2.1 (enc_pos h0 h h1) (enc_in).2.1)
theorem slp_west {l0 l1 z0 z1 : Int} (hl : latB l0 l1 = true) (h0 : 10800000 ≤ z0) (h : z0 ≤ z1) (h1 : z1 ≤ 21600000) : slpH l0 l1 z0 z1 ≤ 0 := by
  have hl := latB_iff.1 hl
  exact scl_neg (mul_neg (enc_pos (show 0 ≤ l0 + 5400000 by omega) (by omega) (by omega)) (enc_in).2.1 (enc_in).2.1 (enc_neg h0 h h1))
attribute [irreducible] slpL slpH
theorem slp_at {l0 l1 z0 z1 : Int} : slpL l0 l1 z0 z1 = sclL (mulL (encL (l0 + 5400000) (l1 + 5400000)) (encH (l0 + 5400000) (l1 + 5400000)) (encL z0 z1) (encH z0 z1)) ∧ slpH l0 l1 z0 z1 = sclH (mulH (encL (l0 + 5400000) (l1 + 5400000)) (encH (l0 + 5400000) (l1 + 5400000)) (encL z0 z1) (encH z0 z1)) := by
  unfold slpL slpH
  exact ⟨rfl, rfl⟩
set_option maxHeartbeats 2000000 in
set_option maxRecDepth 100000 in
theorem av_SlopeG (l0 l1 z0 z1 : Int) (w : World) (hl : latB l0 l1 = true) (hz : validB z0 z1 = true) :
    Calls Tryz.prog 8 #[(.agg #[.int .i64 (l0), .int .i64 (l1)]), (.agg #[.int .i64 (z0), .int .i64 (z1)])] w fun e w' => e = .returned (.tuple #[(.agg #[.int .i64 (mkNN (slpL l0 l1 z0 z1) 1000), .int .i64 (mkDD (slpL l0 l1 z0 z1) 1000)]), (.agg #[.int .i64 (mkNN (slpH l0 l1 z0 z1) 1000), .int .i64 (mkDD (slpH l0 l1 z0 z1) 1000)]), .int .i64 0]) ∧ ∃ d, w' = bw w d := by
  have hlf := latB_iff.1 hl
  have hlv : validB l0 l1 = true := validB_iff.2 ⟨by omega, by omega, by omega⟩
  have HV1 := Lib.hid (fun W => angle_Valid l0 l1 W)
  have HV2 := Lib.hid (fun W => angle_Valid z0 z1 W)
  rw [hlv] at HV1
  rw [hz] at HV2
  have HC := Lib.hid (fun W => tg_Cos l0 l1 hlv W)
  have HS := Lib.hid (fun W => tg_Sin z0 z1 hz W)
  have hin := slp_in (l0 := l0) (l1 := l1) (z0 := z0) (z1 := z1)
  have hm1 := (rate_frac (L := slpL l0 l1 z0 z1) (by omega) (by omega)).1
  have hm2 := (rate_frac (L := slpH l0 l1 z0 z1) (by omega) (by omega)).1
  have HM1 := Lib.hid (fun W => rt_Make (slpL l0 l1 z0 z1) 1000 W ⟨by omega, by omega⟩ (by decide))
  have HM2 := Lib.hid (fun W => rt_Make (slpH l0 l1 z0 z1) 1000 W ⟨by omega, by omega⟩ (by decide))
  rw [hm1] at HM1
  rw [hm2] at HM2
  obtain ⟨a1, a2, a3⟩ := enc_in (lo := l0 + 5400000) (hi := l1 + 5400000)
  obtain ⟨b1, b2, b3⟩ := enc_in (lo := z0) (hi := z1)
  obtain ⟨m1, m2, m3⟩ := mul_unit a1 a2 a3 b1 b2 b3
  have HP := Lib.hid (fun W => fx_MulG _ _ _ _ W (fxB_iff.2 ⟨a2, by omega, by omega⟩) (fxB_iff.2 ⟨b2, by omega, by omega⟩) (fxB_iff.2 ⟨m2, by omega, by omega⟩))
  have HL := Lib.hid (fun W => fx_ScaleG _ _ W (fxB_iff.2 ⟨m2, by omega, by omega⟩))
  obtain ⟨e1, e2⟩ := slp_at (l0 := l0) (l1 := l1) (z0 := z0) (z1 := z1)
  rw [← e1, ← e2] at HL
  clear e1 e2 hm1 hm2 hin m1 m2 m3 a1 a2 a3 b1 b2 b3 hlv hz hl
  generalize slpL l0 l1 z0 z1 = L at *
  generalize slpH l0 l1 z0 z1 = H at *
  generalize mulL (encL (l0 + 5400000) (l1 + 5400000)) (encH (l0 + 5400000) (l1 + 5400000)) (encL z0 z1) (encH z0 z1) = P at *
  generalize mulH (encL (l0 + 5400000) (l1 + 5400000)) (encH (l0 + 5400000) (l1 + 5400000)) (encL z0 z1) (encH z0 z1) = Q at *
  generalize encL (l0 + 5400000) (l1 + 5400000) = c0 at *
  generalize encH (l0 + 5400000) (l1 + 5400000) = c1 at *
  generalize encL z0 z1 = s0 at *
  generalize encH z0 z1 = s1 at *
  generalize mkNN L 1000 = n1 at *
  generalize mkDD L 1000 = d1 at *
  generalize mkNN H 1000 = n2 at *
  generalize mkDD H 1000 = d2 at *
  have g1 : ¬ l0 < -5400000 := by omega
  have g2 : ¬ 5400000 < l1 := by omega
  clear hlf
  refine lay_start ?_
  go_enter Tryz.func8, Tryz.ntmps8
  go_wp2_with (first | (go_at_call 27; first | (with_reducible refine (HV1.out _).mono ?_; rintro e w' ⟨rfl, dd1, rfl⟩) | (with_reducible refine (HV2.out _).mono ?_; rintro e w' ⟨rfl, dd2, rfl⟩)) | (go_at_call 28; refine (HC.out _).mono ?_; rintro e w' ⟨rfl, dd3, rfl⟩) | (go_at_call 29; refine (HS.out _).mono ?_; rintro e w' ⟨rfl, dd4, rfl⟩) | (go_at_call 30; refine (HP.out _).mono ?_; rintro e w' ⟨rfl, dd5, rfl⟩) | (go_at_call 31; refine (HL.out _).mono ?_; rintro e w' ⟨rfl, dd6, rfl⟩) | (go_at_call 32; first | (with_reducible refine (HM1.out _).mono ?_; rintro e w' ⟨rfl, dd7, rfl⟩) | (with_reducible refine (HM2.out _).mono ?_; rintro e w' ⟨rfl, dd8, rfl⟩)))
  go_region
  all_goals
    go_wp2_with fail
    exact bodyPost_ret (v := .tuple #[(.agg #[.int .i64 (n1), .int .i64 (d1)]), (.agg #[.int .i64 (n2), .int .i64 (d2)]), .int .i64 0]) (by simp [results, Tryz.results8, go_sem]) rfl ⟨rfl, by rw [bw_drewExt, lay_bw]; exact lay_ex _ _⟩
end Go.Proofs.YtmomoeagnkjbiaaGreat

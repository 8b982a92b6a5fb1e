/- Contracts and plain laws, several texts in one: Sgn; CompPlain; Tabs; Comp1 -/
import Derived.Test.YtakcfcekdngndaaGreatProg
import Derived.WalkKit
import Derived.WalkSpells
import Derived.WalkLawsBesides
import Derived.Lib.Hide
import Derived.BigQuiet
import Derived.Deep.Slices
import Derived.ChangeSame
import Derived.WideShapes
import Derived.ChangeShapes
import Derived.Test.YtakcfcekdngndaaGreatBAA
import Derived.Test.YtakcfcekdngndaaGreatBAB
import Derived.Test.YtakcfcekdngndaaGreatBAC
import Derived.Test.YtakcfcekdngndaaGreatBAG
/- angle.Signed. -/
namespace Go.Proofs.YtakcfcekdngndaaGreat
open Go.RowKit

def sgnI (n : Int) : Int := if n % 21600000 < 10800000 then n % 21600000 else n % 21600000 - 21600000
set_option maxHeartbeats 400000 in
theorem angle_Sgn (n : Int) (w : World) :
    Calls Tryz.prog 53 #[.int .i64 n] w fun e w' => e = .returned (.int .i64 (sgnI n)) ∧ w' = w := by
  have hb : 0 ≤ n % 21600000 ∧ n % 21600000 < 21600000 := by omega
  go_enter Tryz.func53, Tryz.ntmps53
  go_wp2_with (go_at_call 88; refine (angle_Wrap _ _).mono ?_; rintro e w' ⟨rfl, rfl⟩)
  all_goals go_ret
  all_goals exact ⟨ret_int (by unfold sgnI; omega), rfl⟩
end Go.Proofs.YtakcfcekdngndaaGreat
/- Deviation tables in plain integers: the deviation at a heading, over an arc, and what the compass course solves. No program in sight. -/
namespace Go.Proofs.YtakcfcekdngndaaGreat

abbrev Tl := List (Int × Int)
def hd (l : Tl) (i : Nat) : Int := (l.getD i (0, 0)).1
def dv (l : Tl) (i : Nat) : Int := (l.getD i (0, 0)).2

structure Tab (l : Tl) : Prop where
  len : l.length ≤ 72
  h0 : ∀ i, i < l.length → 0 ≤ hd l i
  h1 : ∀ i, i < l.length → hd l i < 21600000
  d0 : ∀ i, i < l.length → -1800000 ≤ dv l i
  d1 : ∀ i, i < l.length → dv l i ≤ 1800000
  asc : ∀ i, i + 1 < l.length → hd l i < hd l (i + 1)
  st : ∀ i, i + 1 < l.length → -(hd l (i + 1) - hd l i) ≤ 2 * (dv l (i + 1) - dv l i) ∧ 2 * (dv l (i + 1) - dv l i) ≤ hd l (i + 1) - hd l i
  cy : 0 < l.length → -(21600000 + hd l 0 - hd l (l.length - 1)) ≤ 2 * (dv l 0 - dv l (l.length - 1)) ∧ 2 * (dv l 0 - dv l (l.length - 1)) ≤ 21600000 + hd l 0 - hd l (l.length - 1)
noncomputable def vB (l : Tl) : Bool := @decide (Tab l) (Classical.propDecidable _)
theorem vB_iff {l : Tl} : vB l = true ↔ Tab l := by unfold vB; simp
theorem vB_false {l : Tl} : vB l = false ↔ ¬ Tab l := by unfold vB; simp

theorem Tab.lt {l : Tl} (T : Tab l) {j : Nat} (hj : j < l.length) : ∀ i, i < j → hd l i < hd l j := by
  induction j with
  | zero => intro i hi; omega
  | succ j ih =>
    intro i hi
    have h1 := T.asc j hj
    by_cases e : i = j
    · subst e; exact h1
    · have := ih (by omega) i (by omega); omega

/-- The last of the first k entries whose heading is at most h, or the last one of all. -/
def lastLe (l : Tl) (h : Int) : Nat → Nat
  | 0 => l.length - 1
  | k + 1 => if hd l k ≤ h then k else lastLe l h k
def kx (l : Tl) (h : Int) : Nat := lastLe l h l.length
theorem lastLe_lt (l : Tl) (h : Int) (hl : 0 < l.length) : ∀ k, k ≤ l.length → lastLe l h k < l.length
  | 0, _ => by simp [lastLe]; omega
  | k + 1, hk => by unfold lastLe; split; omega; exact lastLe_lt l h hl k (by omega)
theorem kx_lt {l : Tl} (h : Int) (hl : 0 < l.length) : kx l h < l.length := lastLe_lt l h hl _ (Nat.le_refl _)
theorem lastLe_spec (l : Tl) (h : Int) : ∀ k, (hd l (lastLe l h k) ≤ h ∧ lastLe l h k < k ∧ ∀ j, lastLe l h k < j → j < k → h < hd l j) ∨ ((∀ j, j < k → h < hd l j) ∧ lastLe l h k = l.length - 1)
  | 0 => Or.inr ⟨fun j hj => by omega, rfl⟩
  | k + 1 => by
    unfold lastLe
    split
    · rename_i hh; exact Or.inl ⟨hh, by omega, fun j h1 h2 => by omega⟩
    · rename_i hh
      rcases lastLe_spec l h k with ⟨h1, h2, h3⟩ | ⟨h1, h2⟩
      · exact Or.inl ⟨h1, by omega, fun j h4 h5 => by
          by_cases e : j = k
          · subst e; omega
          · exact h3 j h4 (by omega)⟩
      · exact Or.inr ⟨fun j hj => by
          by_cases e : j = k
          · subst e; omega
          · exact h1 j (by omega), h2⟩
/-- The index is determined. -/
theorem kx_eq {l : Tl} (_T : Tab l) {h : Int} {i : Nat} (hi : i < l.length) (h1 : hd l i ≤ h) (h2 : ∀ j, i < j → j < l.length → h < hd l j) : kx l h = i := by
  unfold kx
  rcases lastLe_spec l h l.length with ⟨g1, g2, g3⟩ | ⟨g1, _⟩
  · rcases Nat.lt_trichotomy (lastLe l h l.length) i with hh | hh | hh
    · have := g3 i hh hi; omega
    · exact hh
    · have := h2 _ hh g2; omega
  · have := g1 i hi; omega
theorem kx_none {l : Tl} {h : Int} (h2 : ∀ j, j < l.length → h < hd l j) : kx l h = l.length - 1 := by
  unfold kx
  rcases lastLe_spec l h l.length with ⟨g1, g2, _⟩ | ⟨_, g2⟩
  · have := h2 _ g2; omega
  · exact g2

def nx (l : Tl) (k : Nat) : Nat := (k + 1) % l.length
def gapK (l : Tl) (k : Nat) : Int := (hd l (nx l k) - hd l k) % 21600000
/-- The ends of the deviation at a heading from 0 to a turn less one. -/
def aLo (l : Tl) (h : Int) : Int := dv l (kx l h) + ((dv l (nx l (kx l h)) - dv l (kx l h)) * ((h - hd l (kx l h)) % 21600000)) / gapK l (kx l h)
def aHi (l : Tl) (h : Int) : Int := dv l (kx l h) + cdiv ((dv l (nx l (kx l h)) - dv l (kx l h)) * ((h - hd l (kx l h)) % 21600000)) (gapK l (kx l h))
/-- .. and at any integer. -/
def atLo (l : Tl) (n : Int) : Int := aLo l (n % 21600000)
def atHi (l : Tl) (n : Int) : Int := aHi l (n % 21600000)
theorem atLo_turn (l : Tl) (n k : Int) : atLo l (n + k * 21600000) = atLo l n := by unfold atLo; rw [Int.add_mul_emod_self_right]
theorem atHi_turn (l : Tl) (n k : Int) : atHi l (n + k * 21600000) = atHi l n := by unfold atHi; rw [Int.add_mul_emod_self_right]

theorem dv_nil (i : Nat) : dv [] i = 0 := by simp [dv]
theorem at_nil (n : Int) : atLo [] n = 0 ∧ atHi [] n = 0 := by
  unfold atLo atHi aLo aHi; simp [dv_nil, cdiv]

/-- The segment of a heading: from the entry k, for gap units; with one entry the whole turn. -/
structure Seg (l : Tl) (n : Int) (k : Nat) (p g : Int) : Prop where
  kl : k < l.length
  p0 : p ≤ n
  p1 : n < p + g
  ph : p % 21600000 = hd l k
  g0 : 0 < g
  g1 : g ≤ 21600000
  val : ∀ m, p ≤ m → m < p + g → atLo l m = dv l k + ((dv l (nx l k) - dv l k) * (m - p)) / g ∧ atHi l m = dv l k + cdiv ((dv l (nx l k) - dv l k) * (m - p)) g
  nxl : nx l k < l.length
  qh : (p + g) % 21600000 = hd l (nx l k)

theorem emod_bd (n : Int) : 0 ≤ n % 21600000 ∧ n % 21600000 < 21600000 := by omega
theorem zero_div_cdiv (g : Int) : (0 : Int) / g = 0 ∧ cdiv 0 g = 0 := by simp [cdiv]

theorem seg_ex {l : Tl} (T : Tab l) (hl : 0 < l.length) (n : Int) : ∃ k p g, Seg l n k p g := by
  have hb := emod_bd n
  have hk := kx_lt (n % 21600000) hl
  by_cases hone : l.length = 1
  · -- one entry
    have k0 : ∀ h, kx l h = 0 := fun h => by have := kx_lt h hl; omega
    have n0 : nx l 0 = 0 := by unfold nx; rw [hone]
    have h0 := T.h0 0 hl
    have h1 := T.h1 0 hl
    refine ⟨0, n - (n - hd l 0) % 21600000, 21600000, hl, by omega, by omega, by omega, by omega, by omega, fun m _ _ => ?_, by rw [n0]; exact hl, by rw [n0]; omega⟩
    unfold atLo atHi aLo aHi
    rw [k0, n0, Int.sub_self, Int.zero_mul, Int.zero_mul]
    simp [zero_div_cdiv]
  · have hn2 : 2 ≤ l.length := by omega
    -- within the headings
    by_cases hin : ∃ i, i + 1 < l.length ∧ hd l i ≤ n % 21600000 ∧ n % 21600000 < hd l (i + 1)
    · obtain ⟨i, hi, g1, g2⟩ := hin
      have nxi : nx l i = i + 1 := by unfold nx; exact Nat.mod_eq_of_lt hi
      have b0 := T.h0 i (by omega)
      have b1 := T.h1 (i + 1) hi
      have hgap : gapK l i = hd l (i + 1) - hd l i := by unfold gapK; rw [nxi]; omega
      refine ⟨i, n - (n % 21600000 - hd l i), hd l (i + 1) - hd l i, by omega, by omega, by omega, by omega, by omega, by omega, fun m m1 m2 => ?_, by rw [nxi]; exact hi, by rw [nxi]; omega⟩
      have hm : m % 21600000 = hd l i + (m - (n - (n % 21600000 - hd l i))) := by omega
      have hkx : kx l (m % 21600000) = i := kx_eq T (by omega) (by omega) fun j j1 j2 => by
        by_cases e : j = i + 1
        · subst e; omega
        · have := T.lt j2 (i + 1) (by omega); omega
      unfold atLo atHi aLo aHi
      rw [hkx, hgap, hm, show hd l i + (m - (n - (n % 21600000 - hd l i))) - hd l i = m - (n - (n % 21600000 - hd l i)) by omega]
      rw [show (m - (n - (n % 21600000 - hd l i))) % 21600000 = m - (n - (n % 21600000 - hd l i)) by omega]
      exact ⟨rfl, rfl⟩
    · -- from the last entry round to the first one
      have nxl : nx l (l.length - 1) = 0 := by unfold nx; rw [show l.length - 1 + 1 = l.length by omega]; exact Nat.mod_self _
      have a0 := T.h0 0 hl
      have aL := T.h1 (l.length - 1) (by omega)
      have lt0 := T.lt (show l.length - 1 < l.length by omega) 0 (by omega)
      have hcase : n % 21600000 < hd l 0 ∨ hd l (l.length - 1) ≤ n % 21600000 := by
        apply Classical.byContradiction
        intro hno
        have step : ∀ i, i < l.length → hd l i ≤ n % 21600000 := fun i => by
          induction i with
          | zero => intro _; omega
          | succ i ih =>
            intro hi
            have := ih (by omega)
            apply Classical.byContradiction
            intro hlt
            exact hin ⟨i, hi, this, by omega⟩
        have := step (l.length - 1) (by omega)
        omega
      have hgap : gapK l (l.length - 1) = 21600000 + hd l 0 - hd l (l.length - 1) := by unfold gapK; rw [nxl]; omega
      refine ⟨l.length - 1, n - (n % 21600000 - hd l (l.length - 1)) % 21600000, 21600000 + hd l 0 - hd l (l.length - 1), by omega, by omega, by omega, by omega, by omega, by omega, fun m m1 m2 => ?_, by rw [nxl]; exact hl, by rw [nxl]; omega⟩
      have hm : (m % 21600000 - hd l (l.length - 1)) % 21600000 = m - (n - (n % 21600000 - hd l (l.length - 1)) % 21600000) := by omega
      have hkx : kx l (m % 21600000) = l.length - 1 := by
        by_cases hc : m % 21600000 < hd l 0
        · refine kx_none fun j hj => ?_
          by_cases e : j = 0
          · subst e; exact hc
          · have := T.lt hj 0 (by omega); omega
        · exact kx_eq T (by omega) (by omega) fun j j1 j2 => by omega
      unfold atLo atHi aLo aHi
      rw [hkx, hgap, hm]
      exact ⟨rfl, rfl⟩

theorem cdiv_mono {a b g : Int} (hg : 0 < g) (h : a ≤ b) : cdiv a g ≤ cdiv b g := by
  unfold cdiv
  have := Int.ediv_le_ediv hg (show -b ≤ -a by omega)
  omega
theorem div_le_cdiv' {a g : Int} (hg : 0 < g) : a / g ≤ cdiv a g := by
  unfold cdiv
  have h1 := Int.ediv_mul_le a (show g ≠ 0 by omega)
  have h2 := Int.ediv_mul_le (-a) (show g ≠ 0 by omega)
  have h3 : (a / g + (-a) / g) * g ≤ 0 := by rw [Int.add_mul]; omega
  have h4 : a / g + (-a) / g ≤ 0 := by
    apply Int.not_lt.1
    intro hlt
    have := Int.mul_pos hlt hg
    omega
  omega
theorem at_le {l : Tl} (T : Tab l) (n : Int) : atLo l n ≤ atHi l n := by
  by_cases hl : 0 < l.length
  · obtain ⟨k, p, g, S⟩ := seg_ex T hl n
    obtain ⟨e1, e2⟩ := S.val n S.p0 S.p1
    rw [e1, e2]
    have := div_le_cdiv' (a := (dv l (nx l k) - dv l k) * (n - p)) S.g0
    omega
  · have : l = [] := List.eq_nil_of_length_eq_zero (by omega)
    subst this
    rw [(at_nil n).1, (at_nil n).2]; exact Int.le_refl _
/-- At an entry the deviation is its own. -/
theorem at_entry {l : Tl} (T : Tab l) {i : Nat} (hi : i < l.length) (n : Int) (h : n % 21600000 = hd l i) : atLo l n = dv l i ∧ atHi l n = dv l i := by
  have hkx : kx l (n % 21600000) = i := kx_eq T hi (by omega) fun j j1 j2 => by have := T.lt j2 i j1; omega
  unfold atLo atHi aLo aHi
  rw [hkx, h, Int.sub_self, show (0 : Int) % 21600000 = 0 by decide, Int.mul_zero]
  simp [zero_div_cdiv]

theorem mul_between {s t t1 t2 : Int} (h1 : t1 ≤ t) (h2 : t ≤ t2) : min (s * t1) (s * t2) ≤ s * t ∧ s * t ≤ max (s * t1) (s * t2) := by
  rcases Int.le_total 0 s with hs | hs
  · have := Int.mul_le_mul_of_nonneg_left h1 hs
    have := Int.mul_le_mul_of_nonneg_left h2 hs
    omega
  · have := Int.mul_le_mul_of_nonpos_left hs h1
    have := Int.mul_le_mul_of_nonpos_left hs h2
    omega
theorem div_between {x y z g : Int} (hg : 0 < g) (h1 : min x z ≤ y) (h2 : y ≤ max x z) : min (x / g) (z / g) ≤ y / g ∧ cdiv y g ≤ max (cdiv x g) (cdiv z g) := by
  constructor
  · rcases Int.le_total x z with h | h
    · have := Int.ediv_le_ediv hg (show x ≤ y by omega); omega
    · have := Int.ediv_le_ediv hg (show z ≤ y by omega); omega
  · rcases Int.le_total x z with h | h
    · have := cdiv_mono hg (show y ≤ z by omega); omega
    · have := cdiv_mono hg (show y ≤ x by omega); omega
theorem mul_self_div {s g : Int} (hg : 0 < g) : s * g / g = s ∧ cdiv (s * g) g = s := by
  unfold cdiv
  rw [← Int.neg_mul, Int.mul_ediv_cancel _ (by omega), Int.mul_ediv_cancel _ (by omega)]
  omega
/-- Within a segment the deviation lies between those at any two places of it, the end too. -/
theorem seg_between {l : Tl} {n : Int} {k : Nat} {p g : Int} (S : Seg l n k p g) {x y : Int} (_hx : p ≤ x) (hxn : x ≤ n) (hny : n ≤ y) (_hy : y ≤ p + g) :
    min (dv l k + ((dv l (nx l k) - dv l k) * (x - p)) / g) (dv l k + ((dv l (nx l k) - dv l k) * (y - p)) / g) ≤ atLo l n ∧
    atHi l n ≤ max (dv l k + cdiv ((dv l (nx l k) - dv l k) * (x - p)) g) (dv l k + cdiv ((dv l (nx l k) - dv l k) * (y - p)) g) := by
  obtain ⟨e1, e2⟩ := S.val n S.p0 S.p1
  rw [e1, e2]
  have m := mul_between (s := dv l (nx l k) - dv l k) (t := n - p) (t1 := x - p) (t2 := y - p) (by omega) (by omega)
  have d := div_between S.g0 m.1 m.2
  omega

/-! ### The deviation over an arc -/
def mn' (x y : Int) : Int := if y < x then y else x
def mx' (x y : Int) : Int := if x < y then y else x
def hl (c : Int × Int) (d : Int) : Int × Int := (mn' c.1 d, mx' c.2 d)
def st1 (lo hi : Int) (h d : Int) (c : Int × Int) : Int × Int := if lo ≤ h ∧ h ≤ hi then hl c d else c
def ovK (l : Tl) (lo hi : Int) : Nat → Int × Int
  | 0 => (mn' (atLo l lo) (atLo l hi), mx' (atHi l lo) (atHi l hi))
  | k + 1 => st1 lo hi (hd l k + 21600000) (dv l k) (st1 lo hi (hd l k) (dv l k) (ovK l lo hi k))
def ovLo (l : Tl) (lo hi : Int) : Int := (ovK l lo hi l.length).1
def ovHi (l : Tl) (lo hi : Int) : Int := (ovK l lo hi l.length).2
theorem st1_le (lo hi h d : Int) (c : Int × Int) : (st1 lo hi h d c).1 ≤ c.1 ∧ c.2 ≤ (st1 lo hi h d c).2 := by
  unfold st1 hl mn' mx'; split <;> simp <;> omega
theorem st1_in {lo hi h d : Int} (c : Int × Int) (h1 : lo ≤ h) (h2 : h ≤ hi) : (st1 lo hi h d c).1 ≤ d ∧ d ≤ (st1 lo hi h d c).2 := by
  unfold st1 hl mn' mx'; rw [if_pos ⟨h1, h2⟩]; simp; omega
theorem ovK_mono (l : Tl) (lo hi : Int) (k : Nat) : ∀ j, (ovK l lo hi (k + j)).1 ≤ (ovK l lo hi k).1 ∧ (ovK l lo hi k).2 ≤ (ovK l lo hi (k + j)).2
  | 0 => ⟨Int.le_refl _, Int.le_refl _⟩
  | j + 1 => by
    have ih := ovK_mono l lo hi k j
    have a := st1_le lo hi (hd l (k + j)) (dv l (k + j)) (ovK l lo hi (k + j))
    have b := st1_le lo hi (hd l (k + j) + 21600000) (dv l (k + j)) (st1 lo hi (hd l (k + j)) (dv l (k + j)) (ovK l lo hi (k + j)))
    show (st1 lo hi (hd l (k + j) + 21600000) (dv l (k + j)) (st1 lo hi (hd l (k + j)) (dv l (k + j)) (ovK l lo hi (k + j)))).1 ≤ _ ∧ _ ≤ (st1 lo hi (hd l (k + j) + 21600000) (dv l (k + j)) (st1 lo hi (hd l (k + j)) (dv l (k + j)) (ovK l lo hi (k + j)))).2
    omega
theorem ov_ends (l : Tl) (lo hi : Int) : ovLo l lo hi ≤ atLo l lo ∧ ovLo l lo hi ≤ atLo l hi ∧ atHi l lo ≤ ovHi l lo hi ∧ atHi l hi ≤ ovHi l lo hi := by
  have h := ovK_mono l lo hi 0 l.length
  simp only [Nat.zero_add] at h
  unfold ovLo ovHi
  have e : ovK l lo hi 0 = (mn' (atLo l lo) (atLo l hi), mx' (atHi l lo) (atHi l hi)) := rfl
  rw [e] at h
  simp only [mn', mx'] at h
  split at h <;> split at h <;> omega
theorem ov_entry (l : Tl) {lo hi : Int} {i : Nat} (hi' : i < l.length) {n : Int} (hn : n = hd l i ∨ n = hd l i + 21600000) (h1 : lo ≤ n) (h2 : n ≤ hi) : ovLo l lo hi ≤ dv l i ∧ dv l i ≤ ovHi l lo hi := by
  have h := ovK_mono l lo hi (i + 1) (l.length - (i + 1))
  rw [show i + 1 + (l.length - (i + 1)) = l.length by omega] at h
  unfold ovLo ovHi
  have e : ovK l lo hi (i + 1) = st1 lo hi (hd l i + 21600000) (dv l i) (st1 lo hi (hd l i) (dv l i) (ovK l lo hi i)) := rfl
  rw [e] at h
  rcases hn with rfl | rfl
  · have a := st1_in (d := dv l i) (ovK l lo hi i) h1 h2
    have b := st1_le lo hi (hd l i + 21600000) (dv l i) (st1 lo hi (hd l i) (dv l i) (ovK l lo hi i))
    omega
  · have a := st1_in (d := dv l i) (st1 lo hi (hd l i) (dv l i) (ovK l lo hi i)) h1 h2
    omega
/-- Whatever bounds the deviations at all places of the arc bounds that over it. -/
theorem ov_glb {l : Tl} (T : Tab l) {lo hi X Y : Int} (hlh : lo ≤ hi) (h : ∀ n, lo ≤ n → n ≤ hi → X ≤ atLo l n ∧ atHi l n ≤ Y) : X ≤ ovLo l lo hi ∧ ovHi l lo hi ≤ Y := by
  have key : ∀ k, k ≤ l.length → X ≤ (ovK l lo hi k).1 ∧ (ovK l lo hi k).2 ≤ Y := fun k => by
    induction k with
    | zero =>
      intro _
      have a := h lo (Int.le_refl _) hlh
      have b := h hi hlh (Int.le_refl _)
      show X ≤ mn' (atLo l lo) (atLo l hi) ∧ mx' (atHi l lo) (atHi l hi) ≤ Y
      unfold mn' mx'; split <;> split <;> omega
    | succ k ih =>
      intro hk
      have step : ∀ (n : Int) (c : Int × Int), n % 21600000 = hd l k → (X ≤ c.1 ∧ c.2 ≤ Y) → X ≤ (st1 lo hi n (dv l k) c).1 ∧ (st1 lo hi n (dv l k) c).2 ≤ Y := fun n c hn hc => by
        unfold st1
        split
        · rename_i hh
          have a := h n hh.1 hh.2
          obtain ⟨e1, e2⟩ := at_entry T (by omega) n hn
          rw [e1, e2] at a
          simp only [hl, mn', mx']; split <;> split <;> omega
        · exact hc
      have b0 := T.h0 k (by omega)
      have b1 := T.h1 k (by omega)
      exact step _ _ (by omega) (step _ _ (by omega) (ih (by omega)))
  exact key _ (Nat.le_refl _)
/-- The deviation over an arc of directions contains that at each place of it. -/
theorem ov_has {l : Tl} (T : Tab l) {lo hi n : Int} (hlo : 0 ≤ lo) (hhi : hi < 43200000) (h1 : lo ≤ n) (h2 : n ≤ hi) : ovLo l lo hi ≤ atLo l n ∧ atHi l n ≤ ovHi l lo hi := by
  by_cases hl : 0 < l.length
  · obtain ⟨k, p, g, S⟩ := seg_ex T hl n
    obtain ⟨n1, n2, n3, n4⟩ := ov_ends l lo hi
    have z := zero_div_cdiv g
    have f := mul_self_div (s := dv l (nx l k) - dv l k) S.g0
    have b0 := T.h0 k S.kl
    have b1 := T.h1 k S.kl
    have c0 := T.h0 (nx l k) S.nxl
    have c1 := T.h1 (nx l k) S.nxl
    have hp := S.ph
    have hq := S.qh
    have p0 := S.p0
    have p1 := S.p1
    -- the left end: the arc's, or the entry's
    have left : ∃ x, p ≤ x ∧ x ≤ n ∧ ovLo l lo hi ≤ dv l k + ((dv l (nx l k) - dv l k) * (x - p)) / g ∧ dv l k + cdiv ((dv l (nx l k) - dv l k) * (x - p)) g ≤ ovHi l lo hi := by
      by_cases hc : p ≤ lo
      · obtain ⟨e1, e2⟩ := S.val lo hc (by omega)
        exact ⟨lo, hc, h1, by rw [← e1]; exact n1, by rw [← e2]; exact n3⟩
      · have := ov_entry l S.kl (n := p) (lo := lo) (hi := hi) (by omega) (by omega) (by omega)
        refine ⟨p, Int.le_refl _, p0, ?_, ?_⟩
        · rw [Int.sub_self, Int.mul_zero, z.1]; omega
        · rw [Int.sub_self, Int.mul_zero, z.2]; omega
    have right : ∃ y, n ≤ y ∧ y ≤ p + g ∧ ovLo l lo hi ≤ dv l k + ((dv l (nx l k) - dv l k) * (y - p)) / g ∧ dv l k + cdiv ((dv l (nx l k) - dv l k) * (y - p)) g ≤ ovHi l lo hi := by
      by_cases hc : hi < p + g
      · obtain ⟨e1, e2⟩ := S.val hi (by omega) hc
        exact ⟨hi, h2, by omega, by rw [← e1]; exact n2, by rw [← e2]; exact n4⟩
      · have := ov_entry l S.nxl (n := p + g) (lo := lo) (hi := hi) (by omega) (by omega) (by omega)
        refine ⟨p + g, by omega, Int.le_refl _, ?_, ?_⟩
        · rw [show p + g - p = g by omega, f.1]; omega
        · rw [show p + g - p = g by omega, f.2]; omega
    obtain ⟨x, x1, x2, x3, x4⟩ := left
    obtain ⟨y, y1, y2, y3, y4⟩ := right
    have := seg_between S x1 x2 y1 y2
    omega
  · have : l = [] := List.eq_nil_of_length_eq_zero (by omega)
    subst this
    have := ov_ends [] lo hi
    have := at_nil n; have := at_nil lo
    omega
end Go.Proofs.YtakcfcekdngndaaGreat
/- A slice of deviation entries that reads as a list of pairs; opening it off a row. -/
namespace Go.Proofs.YtakcfcekdngndaaGreat
open Go.RowKit

/-- The value is a slice that reads, in this world, as these entries. -/
def Tabs (w : World) (v : Value) (l : Tl) : Prop :=
  ∃ a cap, v = .slice a l.length cap ∧ l.length ≤ 9223372036854775807 ∧ (l ≠ [] → ∃ b o, a = some ⟨b, o, none⟩ ∧ b < w.heap.size ∧
    ∀ i, i < l.length → w.cell? ⟨b, o + i * 2, none⟩ = some (.int .i64 (hd l i)) ∧ w.cell? ⟨b, o + i * 2 + 1, none⟩ = some (.int .i64 (dv l i)) ∧ (Lit.int .i64 (hd l i)).wf = true ∧ (Lit.int .i64 (dv l i)).wf = true)
theorem Tabs.bw {w : World} {v : Value} {l : Tl} (h : Tabs w v l) (d : Ext) : Tabs (bw w d) v l := by
  obtain ⟨a, cap, h1, h2, h3⟩ := h
  refine ⟨a, cap, h1, h2, fun hl => ?_⟩
  obtain ⟨b, o, h4, h5, h6⟩ := h3 hl
  exact ⟨b, o, h4, Nat.lt_of_lt_of_le h5 (bw_le w d), fun i hi => ⟨(bw_cell w d b (o + i * 2) h5).trans (h6 i hi).1, (bw_cell w d b (o + i * 2 + 1) h5).trans (h6 i hi).2.1, (h6 i hi).2.2⟩⟩
theorem Tabs.nil (w : World) : Tabs w (.slice none 0 0) [] := ⟨none, 0, rfl, by simp, fun h => absurd rfl h⟩
theorem tabs_of_fn {w : World} {a : Addr} {n cap : Nat} (hn : n ≤ 9223372036854775807) (hsp : a.spot = none) (hb : n ≠ 0 → a.block < w.heap.size) (f : Nat → Int × Int)
    (h : ∀ i, i < n → w.cell? ⟨a.block, a.off + i * 2, none⟩ = some (.int .i64 (f i).1) ∧ w.cell? ⟨a.block, a.off + i * 2 + 1, none⟩ = some (.int .i64 (f i).2) ∧ (Lit.int .i64 (f i).1).wf = true ∧ (Lit.int .i64 (f i).2).wf = true) :
    Tabs w (.slice (some a) n cap) ((List.range n).map f) := by
  refine ⟨some a, cap, by simp, by simpa using hn, fun hl => ⟨a.block, a.off, by cases a; simp_all, hb (by rintro rfl; exact hl rfl), fun i hi => ?_⟩⟩
  have hi' : i < n := by simpa using hi
  have e : ((List.range n).map f).getD i (0, 0) = f i := by simp [List.getD, hi']
  unfold hd dv
  rw [e]
  exact h i hi'

theorem add_block (a : Addr) (n : Nat) : (a.add n).block = a.block := by
  unfold Addr.add; split <;> rfl
theorem add_none {a : Addr} (h : a.spot = none) (n : Nat) : a.add n = ⟨a.block, a.off + n, none⟩ := by
  unfold Addr.add
  split
  · rename_i h0
    have : n = 0 := by simpa using h0
    subst this
    cases a; simp_all
  · rfl
section
variable {H : Type} {enc : TypeId × Value → H} {P : Program}
theorem tabs_of {w : World} {t e ti : TypeId} {r : Reach} {b0 : Nat} {f0 f1 : Field} {v : Value} {d : DataW H} {ps : List MemPlace} (ht : P.underlying t = some (.slice e)) (he : P.underlying e = some (.struct #[f0, f1])) (hi : P.underlying ti = some (.int .i64))
    (hC : P.cellsOf e = 2) (h0 : f0.type = ti ∧ f0.offset = 0) (h1 : f1.type = ti ∧ f1.offset = 1) (hc : P.cellsOf ti = 1) (hval : Value.okWide P w r b0 t v) (h : DataW.Trod enc P w 0 (fun _ => true) true t v d ps) : ∃ l, Tabs w v l := by
  obtain ⟨a, len, cap, rfl⟩ := Go.WideShapes.okWide_slice ht hval
  obtain ⟨fuel, hf⟩ := h
  rcases Go.Deep.open_slice ht hf with ⟨hcs, _⟩ | ⟨a', len', cap', m, n, D, Pl, hcs, hb, hl, hm, hmm, hx, hel⟩
  · have : (.slice a len cap : Value) = .slice none 0 0 := by simpa [Value.cells] using hcs
    rw [this]
    exact ⟨[], Tabs.nil w⟩
  · have hv : (.slice a len cap : Value) = .slice (some a') len' cap' := by simpa [Value.cells] using hcs
    rw [hv]
    simp only [if_true] at hmm
    subst hmm
    obtain ⟨f, hF⟩ := Go.Deep.choose_lt (α := Int × Int) (p := fun i x => w.cell? (a'.add (i * 2)) = some (.int .i64 x.1) ∧ w.cell? (a'.add (i * 2 + 1)) = some (.int .i64 x.2) ∧ (Lit.int .i64 x.1).wf = true ∧ (Lit.int .i64 x.2).wf = true) (n := m) (fun i him => by
      obtain ⟨cs', hc', ht'⟩ := hel i him
      rw [hC] at hc'
      obtain ⟨_, hcl, hat⟩ := World.cells?_some hc'
      obtain ⟨y0, y1, k, hy, _, g0, g1⟩ := Go.ChangeShapes.trod_struct2 he ht'
      rw [h0.1, h0.2, hc] at g0
      rw [h1.1, h1.2, hc] at g1
      obtain ⟨x0, q0, _, w0⟩ := DataW.trod_int hi g0
      obtain ⟨x1, q1, _, w1⟩ := DataW.trod_int hi g1
      match cs', hcl with
      | [u0, u1], _ =>
        simp at q0 q1
        subst q0 q1
        refine ⟨(x0, x1), ?_, ?_, w0, w1⟩
        · simpa [Go.Deep.add_add] using hat 0 (by omega)
        · simpa [Go.Deep.add_add] using hat 1 (by omega))
    have hspot : 0 < len' → a'.spot = none := fun hp => by
      have := (hF 0 (by omega)).1
      unfold World.cell? at this
      cases hs : a'.spot
      · rfl
      · simp [Addr.add, hs] at this
        split at this <;> simp at this
    have hbl : 0 < len' → a'.block < w.heap.size := fun hp => by
      obtain ⟨cs', hc', _⟩ := hel 0 (by omega)
      rw [hC] at hc'
      have := World.cells?_block hc' (by omega)
      simpa [add_block] using this
    by_cases hz : len' = 0
    · subst hz
      exact ⟨[], some a', _, rfl, by simp, fun hne => absurd rfl hne⟩
    · have hM : maxLen = 9223372036854775807 := by decide
      refine ⟨_, tabs_of_fn (by omega) (hspot (by omega)) (fun _ => hbl (by omega)) f fun i hi' => ?_⟩
      have g := hF i (by omega)
      have hs := hspot (by omega)
      rw [add_none hs, add_none hs] at g
      simpa [Nat.add_assoc] using g
end
end Go.Proofs.YtakcfcekdngndaaGreat
/- Contracts of package compass: the small functions. -/
namespace Go.Proofs.YtakcfcekdngndaaGreat
open Go.RowKit

def headB (n : Int) : Bool := decide (0 ≤ n ∧ n < 21600000)
theorem head_yes {n : Int} (h : 0 ≤ n) : decide (n < 21600000) = headB n := by unfold headB; simp [h]
theorem head_no {n : Int} (h : n < 0) : false = headB n := by unfold headB; simp; omega
set_option maxHeartbeats 400000 in
theorem comp_heading (n : Int) (w : World) :
    Calls Tryz.prog 106 #[.int .i64 n] w fun e w' => e = .returned (.bool (headB n)) ∧ w' = w := by
  go_enter Tryz.func106, Tryz.ntmps106
  go_wp2
  · go_ret
    exact ⟨ret_bool (head_yes ‹_›), rfl⟩
  · go_ret
    exact ⟨ret_bool (head_no ‹_›), rfl⟩
def withB (n k : Int) : Bool := decide (-k ≤ n ∧ n ≤ k)
theorem with_yes {n k : Int} (h : -k ≤ n) : decide (n ≤ k) = withB n k := by unfold withB; simp [h]
theorem with_no {n k : Int} (h : n < -k) : false = withB n k := by unfold withB; simp; omega
set_option maxHeartbeats 400000 in
theorem comp_within (n k : Int) (w : World) (h1 : -9223372036854775807 ≤ k) (h2 : k ≤ 9223372036854775807) :
    Calls Tryz.prog 87 #[.int .i64 n, .int .i64 k] w fun e w' => e = .returned (.bool (withB n k)) ∧ w' = w := by
  go_enter Tryz.func87, Tryz.ntmps87
  go_wp2
  · go_ret
    exact ⟨ret_bool (with_yes ‹_›), rfl⟩
  · go_ret
    exact ⟨ret_bool (with_no ‹_›), rfl⟩
set_option maxHeartbeats 400000 in
theorem comp_floor (a b : Int) (w : World) (hb : 1 ≤ b) (h1 : -9223372036854775807 ≤ a) (h2 : a ≤ 9223372036854775807) :
    Calls Tryz.prog 132 #[.int .i64 a, .int .i64 b] w fun e w' => e = .returned (.int .i64 (a / b)) ∧ w' = w := by
  go_enter Tryz.func132, Tryz.ntmps132
  go_wp2
  · go_ret
    refine ⟨ret_int ?_, rfl⟩
    rw [IntWalk.wrap64_in]
    · exact floor_neg hb ‹_›
    · rw [floor_neg hb ‹_›]; have := ediv_bd hb 9223372036854775807 (by decide) h1 h2; omega
  · go_ret
    exact ⟨ret_int (floor_pos hb ‹_›), rfl⟩
set_option maxHeartbeats 400000 in
theorem cmp_isNaN (n : Int) (w : World) :
    Calls Tryz.prog 149 #[.int .i64 n] w fun e w' => e = .returned (.bool false) ∧ w' = w := by
  go_enter Tryz.func149, Tryz.ntmps149
  go_wp2
  all_goals go_ret
  all_goals first | exact ⟨rfl, rfl⟩ | exact ⟨ret_bool (by simp), rfl⟩
def cmpI (a b : Int) : Int := if a < b then -1 else if b < a then 1 else 0
theorem cmpI_lt {a b : Int} (h : a < b) : cmpI a b = -1 := by simp [cmpI, h]
theorem cmpI_gt {a b : Int} (h : b < a) : cmpI a b = 1 := by
  unfold cmpI; rw [if_neg (by omega), if_pos h]
theorem cmpI_eq {a b : Int} (h : a = b) : cmpI a b = 0 := by simp [cmpI, h]
set_option maxHeartbeats 400000 in
theorem cmp_Compare (a b : Int) (w : World) :
    Calls Tryz.prog 131 #[.int .i64 a, .int .i64 b] w fun e w' => e = .returned (.int .i64 (cmpI a b)) ∧ w' = w := by
  go_enter Tryz.func131, Tryz.ntmps131
  go_wp2_with (go_at_call 149; refine (cmp_isNaN _ _).mono ?_; rintro e w' ⟨rfl, rfl⟩)
  all_goals go_ret
  all_goals exact ⟨ret_int (by first | exact (cmpI_lt ‹_›).symm | exact (cmpI_gt ‹_›).symm | exact (cmpI_eq (by omega)).symm), rfl⟩
set_option maxHeartbeats 400000 in
theorem comp_at1 (a b n : Int) (w : World) :
    Calls Tryz.prog 130 #[(.agg #[.int .i64 (a), .int .i64 (b)]), .int .i64 n] w fun e w' => e = .returned (.int .i64 (cmpI a n)) ∧ ∃ d, w' = bw w d := by
  refine lay_start ?_
  go_enter Tryz.func130, Tryz.ntmps130
  go_wp2_with (go_at_call 131; refine (cmp_Compare _ _ _).mono ?_; rintro e w' ⟨rfl, rfl⟩)
  all_goals go_ret
  all_goals exact ⟨rfl, lay_ex _ _⟩
set_option maxHeartbeats 400000 in
theorem comp_hull (x0 y0 x1 y1 : Int) (w : World) :
    Calls Tryz.prog 108 #[(.agg #[.int .i64 (x0), .int .i64 (y0)]), (.agg #[.int .i64 (x1), .int .i64 (y1)])] w fun e w' => e = .returned ((.agg #[.int .i64 (mn x0 x1), .int .i64 (mx y0 y1)])) ∧ ∃ d, w' = bw w d := by
  refine lay_start ?_
  go_enter Tryz.func108, Tryz.ntmps108
  go_wp2
  exact bodyPost_ret (v := (.agg #[.int .i64 (mn x0 x1), .int .i64 (mx y0 y1)])) (by simp [results, Tryz.results108, go_sem]) rfl ⟨rfl, lay_ex _ _⟩
set_option maxHeartbeats 400000 in
theorem comp_near (x0 y0 : Int) (w : World) :
    Calls Tryz.prog 52 #[(.agg #[.int .i64 (x0), .int .i64 (y0)])] w fun e w' => e = .returned (.bool (withB x0 274877906944 && withB y0 274877906944)) ∧ ∃ d, w' = bw w d := by
  refine lay_start ?_
  go_enter Tryz.func52, Tryz.ntmps52
  go_wp2_with (go_at_call 87; refine (comp_within _ _ _ (by omega) (by omega)).mono ?_; rintro e w' ⟨rfl, rfl⟩)
  all_goals go_ret
  all_goals exact ⟨ret_bool (by simp [*]), lay_ex _ _⟩
end Go.Proofs.YtakcfcekdngndaaGreat

/- Contracts and plain laws, several texts in one: AvQ; Av4; Sg2 -/
import Derived.Test.YtmomoeagnkjbiaaGreatProg
import Derived.WalkKit
import Derived.WalkSpells
import Derived.WalkLawsBesides
import Derived.Lib.Hide
import Derived.BigQuiet
import Derived.Test.YtmomoeagnkjbiaaGreatCAA
import Derived.Test.YtmomoeagnkjbiaaGreatCAB
import Derived.Test.YtmomoeagnkjbiaaGreatCAC
import Derived.Test.YtmomoeagnkjbiaaGreatCAD
import Derived.Test.YtmomoeagnkjbiaaGreatCAE
import Derived.Test.YtmomoeagnkjbiaaGreatCAF
import Derived.Test.YtmomoeagnkjbiaaGreatCAG
import Derived.Test.YtmomoeagnkjbiaaGreatCAJ
/- Sorted lists by a preorder: the k-th elements are alike; quotients; residuals. The plain law. No function of the program. -/
namespace Go.Proofs.YtmomoeagnkjbiaaGreat

/-- Two ascending lists with the same elements: the k-th ones are alike. -/
theorem kth_le {α : Type} (le : α → α → Bool) (tot : ∀ x y, le x y = true ∨ le y x = true) (tr : ∀ x y z, le x y = true → le y z = true → le x z = true) {a b : List α}
    (ha : a.Pairwise fun x y => le x y = true) (hb : b.Pairwise fun x y => le x y = true) (h : a.Perm b) {k : Nat} (hk : k < a.length) (hk2 : k < b.length) : le a[k] b[k] = true := by
  by_cases hn : le a[k] b[k] = true
  · exact hn
  exfalso
  have rf : ∀ x, le x x = true := fun x => (tot x x).elim id id
  have e1 : b.countP (fun z => le z b[k]) = a.countP (fun z => le z b[k]) := (h.countP_eq _).symm
  have h1 : k + 1 ≤ b.countP (fun z => le z b[k]) := by
    have e2 : (b.take (k + 1)).countP (fun z => le z b[k]) = (b.take (k + 1)).length := by
      refine List.countP_eq_length.2 fun z hz => ?_
      obtain ⟨i, hi, rfl⟩ := List.getElem_of_mem hz
      rw [List.length_take] at hi
      rw [List.getElem_take]
      by_cases he : i = k
      · subst he; exact rf _
      · exact List.pairwise_iff_getElem.1 hb i k (by omega) hk2 (by omega)
    have e3 : b.countP (fun z => le z b[k]) = (b.take (k + 1)).countP (fun z => le z b[k]) + (b.drop (k + 1)).countP (fun z => le z b[k]) := by
      rw [← List.countP_append, List.take_append_drop]
    rw [List.length_take] at e2
    omega
  have h2 : a.countP (fun z => le z b[k]) ≤ k := by
    have e2 : (a.drop k).countP (fun z => le z b[k]) = 0 := by
      refine List.countP_eq_zero.2 fun z hz hp => ?_
      obtain ⟨i, hi, rfl⟩ := List.getElem_of_mem hz
      rw [List.length_drop] at hi
      rw [List.getElem_drop] at hp
      refine hn (tr _ a[k + i] _ ?_ hp)
      by_cases he : i = 0
      · subst he; exact rf _
      · exact List.pairwise_iff_getElem.1 ha k (k + i) hk (by omega) (by omega)
    have e3 : a.countP (fun z => le z b[k]) = (a.take k).countP (fun z => le z b[k]) + (a.drop k).countP (fun z => le z b[k]) := by
      rw [← List.countP_append, List.take_append_drop]
    have e4 := List.countP_le_length (p := fun z => le z b[k]) (l := a.take k)
    rw [List.length_take] at e4
    omega
  omega
/-- A difference of readings, and the positive difference of their times. -/
structure RisV where
  h : Int
  t : Int
def risLe (a b : RisV) : Bool := decide (a.h * b.t ≤ b.h * a.t)
theorem risLe_tot (a b : RisV) : risLe a b = true ∨ risLe b a = true := by
  unfold risLe; simp only [decide_eq_true_eq]; omega
theorem risLe_tr {a b c : RisV} (ha : 0 < a.t) (hb : 0 < b.t) (hc : 0 < c.t) (h1 : risLe a b = true) (h2 : risLe b c = true) : risLe a c = true := by
  unfold risLe at *
  simp only [decide_eq_true_eq] at *
  have k1 := Int.mul_le_mul_of_nonneg_right h1 (Int.le_of_lt hc)
  have k2 := Int.mul_le_mul_of_nonneg_right h2 (Int.le_of_lt ha)
  have e1 : b.h * a.t * c.t = b.h * c.t * a.t := by rw [Int.mul_right_comm]
  have k3 : a.h * c.t * b.t ≤ c.h * a.t * b.t := by
    have e2 : a.h * b.t * c.t = a.h * c.t * b.t := by rw [Int.mul_right_comm]
    have e3 : c.h * b.t * a.t = c.h * a.t * b.t := by rw [Int.mul_right_comm]
    rw [← e2, ← e3]
    exact Int.le_trans (Int.le_trans k1 (Int.le_of_eq e1)) k2
  exact Int.le_of_mul_le_mul_right k3 hb
/-- The quotients at one place of two sorted lists are one. -/
theorem kth_quot {a b : List RisV} (hp : ∀ x ∈ a, 0 < x.t) (ha : a.Pairwise fun x y => risLe x y = true) (hb : b.Pairwise fun x y => risLe x y = true) (h : a.Perm b) {k : Nat} (hk : k < a.length) (hk2 : k < b.length) : a[k].h * b[k].t = b[k].h * a[k].t := by
  have hq : ∀ x ∈ b, 0 < x.t := fun x hx => hp x (h.symm.mem_iff.1 hx)
  have go : ∀ {a b : List RisV}, (∀ x ∈ a, 0 < x.t) → a.Pairwise (fun x y => risLe x y = true) → b.Pairwise (fun x y => risLe x y = true) → a.Perm b → ∀ (hk : k < a.length) (hk2 : k < b.length), risLe a[k] b[k] = true := by
    intro a b hp ha hb h hk hk2
    have hq : ∀ x ∈ b, 0 < x.t := fun x hx => hp x (h.symm.mem_iff.1 hx)
    have := kth_le (α := { x : RisV // 0 < x.t }) (fun x y => risLe x.1 y.1) (fun x y => risLe_tot _ _) (fun x y z h1 h2 => risLe_tr x.2 y.2 z.2 h1 h2)
      (a := a.pmap (fun x hx => ⟨x, hx⟩) hp) (b := b.pmap (fun x hx => ⟨x, hx⟩) hq) ?_ ?_ ?_ (k := k) (by simpa using hk) (by simpa using hk2)
    · simpa using this
    · exact (List.pairwise_pmap hp).2 (ha.imp fun h _ _ => h)
    · exact (List.pairwise_pmap hq).2 (hb.imp fun h _ _ => h)
    · exact h.pmap _
  have h1 := go hp ha hb h hk hk2
  have h2 := go hq hb ha h.symm hk2 hk
  unfold risLe at h1 h2
  simp only [decide_eq_true_eq] at h1 h2
  omega
/-- The residual of a reading. -/
def resI (t h n d : Int) : Int := h + (1000 * d - 2 * n * t) / (2000 * d)
theorem res_line (v s x : Int) : resI (1000 * x) (v + s * x) s 1 = v := by
  unfold resI
  have e : 2 * s * (1000 * x) = 2000 * (s * x) := by rw [Int.mul_assoc, Int.mul_left_comm s, ← Int.mul_assoc]; omega
  rw [e]; omega
end Go.Proofs.YtmomoeagnkjbiaaGreat
/- average: floor, residual, slopes, check. -/
namespace Go.Proofs.YtmomoeagnkjbiaaGreat
open Go.RowKit

set_option maxHeartbeats 400000 in
theorem av_floor (a b : Int) (w : World) (hb : 1 ≤ b) (h1 : -9223372036854775807 ≤ a) (h2 : a ≤ 9223372036854775807) :
    Calls Tryz.prog 56 #[.int .i64 a, .int .i64 b] w fun e w' => e = .returned (.int .i64 (a / b)) ∧ w' = w := by
  go_enter Tryz.func56, Tryz.ntmps56
  go_wp2
  · go_ret
    refine ⟨congrArg (fun x => Ending.returned (.int .i64 x)) ?_, rfl⟩
    rw [IntWalk.wrap64_in]
    · exact floor_neg hb ‹_›
    · rw [floor_neg hb ‹_›]; have := ediv_bd hb 9223372036854775807 (by decide) h1 h2; omega
  · go_ret
    exact ⟨congrArg (fun x => Ending.returned (.int .i64 x)) (floor_pos hb ‹_›), rfl⟩
/-- Bounds of a product. -/
theorem mul_in {x k : Int} (X K : Int) (hX : -X ≤ x ∧ x ≤ X) (hK : -K ≤ k ∧ k ≤ K) (h0 : 0 ≤ X) : -(X * K) ≤ x * k ∧ x * k ≤ X * K := by
  have h1 : (x * k).natAbs ≤ X.natAbs * K.natAbs := by rw [Int.natAbs_mul]; exact Nat.mul_le_mul (by omega) (by omega)
  have h2 : ((X.natAbs * K.natAbs : Nat) : Int) = X * K := by
    rw [Int.natCast_mul, Int.natAbs_of_nonneg h0, Int.natAbs_of_nonneg (by omega)]
  rw [← h2]
  omega
structure SlOk (n d : Int) : Prop where
  n1 : -1073741824 ≤ n
  n2 : n ≤ 1073741824
  d1 : 1 ≤ d
  d2 : d ≤ 1073741824
theorem res_bd {t n d : Int} (hs : SlOk n d) (t1 : -172800000 ≤ t ∧ t ≤ 172800000) : -371085174374400000 ≤ 2 * n * t ∧ 2 * n * t ≤ 371085174374400000 ∧ -371085174374400000 ≤ 1000 * d - 2 * n * t - 1000 * d ∧ -372158916198400000 ≤ (1000 * d - 2 * n * t) / (2000 * d) ∧ (1000 * d - 2 * n * t) / (2000 * d) ≤ 372158916198400000 := by
  obtain ⟨n1, n2, d1, d2⟩ := hs
  have h2 := mul_in (x := 2 * n) (k := t) 2147483648 172800000 (by omega) t1 (by decide)
  generalize 2 * n * t = P at *
  have h3 := ediv_bd (a := 1000 * d - P) (b := 2000 * d) (by omega) 372158916198400000 (by decide) (by omega) (by omega)
  omega
set_option maxRecDepth 100000 in
theorem av_residual (t h n d : Int) (w : World) (hs : SlOk n d) (t1 : -172800000 ≤ t ∧ t ≤ 172800000) (h1 : -1099511627776 ≤ h ∧ h ≤ 1099511627776) :
    Calls Tryz.prog 93 #[.int .i64 t, .int .i64 h, (.agg #[.int .i64 (n), .int .i64 (d)])] w fun e w' => e = .returned (.int .i64 (resI t h n d)) ∧ ∃ d, w' = bw w d := by
  obtain ⟨b1, b2, -, b3, b4⟩ := res_bd hs t1
  obtain ⟨n1, n2, d1, d2⟩ := hs
  unfold resI
  have HF := Lib.hid (fun W => av_floor (1000 * d - 2 * n * t) (2000 * d) W (by omega) (by omega) (by omega))
  have k1 : IntKind.i64.wrap (1000 * d) = 1000 * d := IntWalk.i64_in _ (by omega)
  have k2 : IntKind.i64.wrap (2 * n) = 2 * n := IntWalk.i64_in _ (by omega)
  have k3 : IntKind.i64.wrap (2 * n * t) = 2 * n * t := IntWalk.i64_in _ (by omega)
  have k4 : IntKind.i64.wrap (1000 * d - 2 * n * t) = 1000 * d - 2 * n * t := IntWalk.i64_in _ (by omega)
  have k5 : IntKind.i64.wrap (2000 * d) = 2000 * d := IntWalk.i64_in _ (by omega)
  have k6 : IntKind.i64.wrap (h + (1000 * d - 2 * n * t) / (2000 * d)) = h + (1000 * d - 2 * n * t) / (2000 * d) := IntWalk.i64_in _ (by omega)
  obtain ⟨Q, hQ⟩ : ∃ Q, (1000 * d - 2 * n * t) / (2000 * d) = Q := ⟨_, rfl⟩
  rw [hQ] at HF k6 ⊢
  obtain ⟨P, hP⟩ : ∃ P, 2 * n * t = P := ⟨_, rfl⟩
  have k3' : IntKind.i64.wrap (2 * n * t) = P := k3.trans hP
  clear k3
  rw [hP] at HF k4
  clear hQ b1 b2 b3 b4 hP
  refine lay_start ?_
  go_enter Tryz.func93, Tryz.ntmps93
  go_wp2_with (go_at_call 56; refine (HF.out _).mono ?_; rintro e w' ⟨rfl, rfl⟩)
  go_ret
  exact ⟨rfl, lay_ex _ _⟩
def slpB (n d : Int) : Bool := decide (-1000 * d ≤ n ∧ n ≤ 1000 * d)
set_option maxRecDepth 100000 in
theorem av_slopes (n d : Int) (w : World) (hs : SlOk n d) :
    Calls Tryz.prog 42 #[(.agg #[.int .i64 (n), .int .i64 (d)])] w fun e w' => e = .returned (.bool (slpB n d)) ∧ ∃ d, w' = bw w d := by
  obtain ⟨n1, n2, d1, d2⟩ := hs
  have HS := Lib.hid (fun W => av_size n W (by omega) (by omega))
  have k1 : IntKind.i64.wrap (1000 * d) = 1000 * d := IntWalk.i64_in _ (by omega)
  have e : slpB n d = decide (max n (-n) ≤ 1000 * d) := by unfold slpB; rw [decide_eq_decide]; omega
  rw [e]
  generalize max n (-n) = M at *
  clear e n1 n2 d1 d2
  refine lay_start ?_
  go_enter Tryz.func42, Tryz.ntmps42
  go_wp2_with fail
  refine region_bw (by kernel_rfl) (by kernel_rfl) ?_
  repeat (go_big_quiet_step ((first | (go_at_call 67; exact bq (HS.out _) (fun d => lay_join _ _ _ d)))))
  refine wpQuiet_nil ?_
  rintro w' ⟨d, rfl⟩
  rw [lay_bw]
  go_wp2_with fail
  go_ret
  exact ⟨rfl, lay_ex _ _⟩
/-- The error of times and readings. -/
def chkE (t h : List Int) : Int := if t.length ≠ h.length ∨ t.length < 1 ∨ 1000 < t.length then 3 else if outB t 86400000 = true ∨ outB h 10800000 = true then 2 else 0
set_option maxHeartbeats 1000000 in
set_option maxRecDepth 100000 in
theorem av_check (vt vh : Value) (t h : List Int) (w : World) (ht : Sl w vt t) (hh : Sl w vh h) :
    Calls Tryz.prog 38 #[vt, vh] w fun e w' => e = .returned (.int .i64 (chkE t h)) ∧ ∃ d, w' = bw w d := by
  have H1 := Lib.hid (fun W (q : Sl W vt t) => av_outside vt t 86400000 W q (by decide) (by decide))
  have H2 := Lib.hid (fun W (q : Sl W vh h) => av_outside vh h 10800000 W q (by decide) (by decide))
  have HT := Lib.hid ht
  have HH := Lib.hid hh
  obtain ⟨a1, c1, rfl, -⟩ := ht
  obtain ⟨a2, c2, rfl, -⟩ := hh
  unfold chkE
  obtain ⟨m, hm⟩ : ∃ m, t.length = m := ⟨_, rfl⟩
  obtain ⟨q, hq⟩ : ∃ q, h.length = q := ⟨_, rfl⟩
  rw [hm] at H1 HT ⊢
  rw [hq] at H2 HH ⊢
  clear hm hq
  by_cases e1 : m = q
  · subst e1
    have t1 : ((m : Int) == (m : Int)) = true := beq_iff_eq.2 rfl
    have t3 : ((m : Int) != (m : Int)) = false := by rw [bne, t1]; rfl
    by_cases e2 : m < 1
    · rw [if_pos (by omega)]
      have x1 : (m : Int) < 1 := by omega
      refine lay_start ?_
      go_enter Tryz.func38, Tryz.ntmps38
      go_wp2_with fail
      go_ret
      exact ⟨rfl, lay_ex _ _⟩
    · have x1 : ¬ (m : Int) < 1 := by omega
      by_cases e3 : 1000 < m
      · rw [if_pos (by omega)]
        have x2 : (1000 : Int) < (m : Int) := by omega
        refine lay_start ?_
        go_enter Tryz.func38, Tryz.ntmps38
        go_wp2_with fail
        go_ret
        exact ⟨rfl, lay_ex _ _⟩
      · rw [if_neg (by omega)]
        have x2 : ¬ (1000 : Int) < (m : Int) := by omega
        cases ho : outB t 86400000
        · cases ho2 : outB h 10800000
          · rw [ho] at H1
            rw [ho2] at H2
            rw [if_neg (by simp)]
            clear ho ho2
            refine lay_start ?_
            go_enter Tryz.func38, Tryz.ntmps38
            go_wp2_with (go_at_call 66; first | (with_reducible refine (H1.out _ (HT.out.lay _)).mono ?_; rintro e w' ⟨rfl, dA, rfl⟩) | (with_reducible refine (H2.out _ (HH.out.lay _)).mono ?_; rintro e w' ⟨rfl, dB, rfl⟩))
            go_ret
            exact ⟨rfl, lay_ex _ _⟩
          · rw [ho] at H1
            rw [ho2] at H2
            rw [if_pos (by simp)]
            clear ho ho2
            refine lay_start ?_
            go_enter Tryz.func38, Tryz.ntmps38
            go_wp2_with (go_at_call 66; first | (with_reducible refine (H1.out _ (HT.out.lay _)).mono ?_; rintro e w' ⟨rfl, dA, rfl⟩) | (with_reducible refine (H2.out _ (HH.out.lay _)).mono ?_; rintro e w' ⟨rfl, dB, rfl⟩))
            go_ret
            exact ⟨rfl, lay_ex _ _⟩
        · rw [ho] at H1
          rw [if_pos (by simp)]
          clear ho
          refine lay_start ?_
          go_enter Tryz.func38, Tryz.ntmps38
          go_wp2_with (go_at_call 66; with_reducible refine (H1.out _ (HT.out.lay _)).mono ?_; rintro e w' ⟨rfl, dA, rfl⟩)
          go_ret
          exact ⟨rfl, lay_ex _ _⟩
  · rw [if_pos (by omega)]
    have t1 : ((m : Int) == (q : Int)) = false := beq_eq_false_iff_ne.2 (by omega)
    have t3 : ((m : Int) != (q : Int)) = true := by rw [bne, t1]; rfl
    refine lay_start ?_
    go_enter Tryz.func38, Tryz.ntmps38
    go_wp2_with fail
    go_ret
    exact ⟨rfl, lay_ex _ _⟩
end Go.Proofs.YtmomoeagnkjbiaaGreat
/- Rows of sights; slices.IndexFunc and ContainsFunc over sights, for whatever closure; middle, like. -/
namespace Go.Proofs.YtmomoeagnkjbiaaGreat
open Go.RowKit

def idxR {α : Type} (p : α → Bool) : List α → Nat → Int
  | [], _ => -1
  | x :: l, k => if p x then (k : Int) else idxR p l (k + 1)
theorem idxR_bd {α : Type} (p : α → Bool) : ∀ (l : List α) (k : Nat), idxR p l k = -1 ∨ ((k : Int) ≤ idxR p l k ∧ idxR p l k < (k : Int) + l.length)
  | [], _ => .inl rfl
  | x :: l, k => by
    unfold idxR
    split
    · right; simp only [List.length_cons]; omega
    · rcases idxR_bd p l (k + 1) with h | h
      · exact .inl h
      · right; simp only [List.length_cons]; omega
theorem idxR_any {α : Type} (p : α → Bool) : ∀ (l : List α) (k : Nat), decide (0 ≤ idxR p l k) = l.any p
  | [], _ => rfl
  | x :: l, k => by
    unfold idxR
    rw [List.any_cons, ← idxR_any p l (k + 1)]
    cases p x
    · simp
    · simp
theorem idxR_miss {α : Type} {p : α → Bool} {l : List α} {k : Nat} {x : α} (hx : l[k]? = some x) (h : p x = false) (e : idxR p l 0 = idxR p (l.drop k) k) : idxR p l 0 = idxR p (l.drop (k + 1)) (k + 1) := by
  obtain ⟨hk, rfl⟩ := List.getElem?_eq_some_iff.1 hx
  rw [e, List.drop_eq_getElem_cons hk]
  show (if p l[k] then (k : Int) else _) = _
  rw [h]; rfl
theorem idxR_got {α : Type} {p : α → Bool} {l : List α} {k : Nat} {x : α} (hx : l[k]? = some x) (h : p x = true) (e : idxR p l 0 = idxR p (l.drop k) k) : (k : Int) = idxR p l 0 := by
  obtain ⟨hk, rfl⟩ := List.getElem?_eq_some_iff.1 hx
  rw [e, List.drop_eq_getElem_cons hk]
  show _ = (if p l[k] then (k : Int) else _)
  rw [h]; rfl
theorem idxR_end {α : Type} {p : α → Bool} {l : List α} {k : Nat} (hk : l.length ≤ k) (e : idxR p l 0 = idxR p (l.drop k) k) : (-1 : Int) = idxR p l 0 := by
  rw [e, List.drop_of_length_le hk]; rfl


def sgR : RecT SgV := { E := 57, S := 53, k := 11, bytes := 96, enc := SgV.cells, wf := SgOk }
theorem info_sg : (Tryz.prog.info? 57).map (fun i => (i.zero.map (fun z => z.cells.size), i.size, i.bytes)) = some (some 11, 11, 96) := by kernel_rfl
theorem sgROk : RecOk sgR where
  len _ := rfl
  one x u hu := by
    unfold sgR SgV.cells at hu
    simp only [List.mem_cons, List.not_mem_nil, or_false] at hu
    rcases hu with rfl | rfl | rfl | rfl | rfl | rfl | rfl | rfl | rfl | rfl | rfl <;> rfl
  pos := by decide
  und := Tryz.underlying53
  info := by
    have h := info_sg
    cases hi : Tryz.prog.info? 57 with
    | none => rw [hi] at h; cases h
    | some i =>
      rw [hi] at h
      simp only [Option.map_some, Option.some.injEq, Prod.mk.injEq] at h
      obtain ⟨h1, h2, h3⟩ := h
      cases hz : i.zero with
      | none => rw [hz] at h1; cases h1
      | some z =>
        rw [hz] at h1
        simp only [Option.map_some, Option.some.injEq] at h1
        exact ⟨i, z, hi, hz, h2, h3, h1⟩
  small := by decide
set_option maxHeartbeats 1000000 in
theorem sg_IndexFunc (g : FuncId) (lb : List Value) (p : SgV → Bool) (v : Value) (l : List SgV) (w : World) (hv : SlG sgR w v l)
    (eI : ∀ args w, (callFunc g args).run Tryz.prog w = .ok (.enter g args) w)
    (hf : ∀ x ∈ l, ∀ d, Calls Tryz.prog g (.agg (sgR.enc x).toArray :: lb).toArray (bw w d) fun e w' => e = .returned (.bool (p x)) ∧ ∃ d, w' = bw w d) :
    Calls Tryz.prog 95 #[v, .func (.func g) #[] lb.toArray] w (IdxPost w (idxR p l 0)) := by
  by_cases hz : l = []
  · subst hz
    obtain ⟨a, cap, rfl⟩ := hv.form
    clear hf
    refine lay_start ?_
    go_enter Tryz.func95, Tryz.ntmps95
    go_wp2_with fail
    refine wp_loop_rounds 1 ?_
    rw [rounds_succ]
    go_wp2
    go_ret
    exact ⟨rfl, lay_ex _ _⟩
  · obtain ⟨b, o, cap, rfl, hc, hb, hr⟩ := hv.open (List.length_pos_iff.2 hz)
    obtain ⟨m, hm⟩ : ∃ m, l.length = m := ⟨_, rfl⟩
    have HF := Lib.hid hf
    have HM := Lib.hid hm
    rw [hm] at hc ⊢
    have HR : Hid (∀ i x, l[i]? = some x → w.cell? ⟨b, o + i * 11, none⟩ = some (.string x.body) ∧ w.cell? ⟨b, o + i * 11 + 1, none⟩ = some (.int .i64 x.limb) ∧ w.cell? ⟨b, o + i * 11 + 2, none⟩ = some (.int .i64 x.lo) ∧ w.cell? ⟨b, o + i * 11 + 3, none⟩ = some (.int .i64 x.hi) ∧ w.cell? ⟨b, o + i * 11 + 4, none⟩ = some (.int .i64 x.hs) ∧ w.cell? ⟨b, o + i * 11 + 5, none⟩ = some (.int .i64 x.wi) ∧ w.cell? ⟨b, o + i * 11 + 6, none⟩ = some (.int .i64 x.hz) ∧ w.cell? ⟨b, o + i * 11 + 7, none⟩ = some (.int .i64 x.ey) ∧ w.cell? ⟨b, o + i * 11 + 8, none⟩ = some (.int .i64 x.sh) ∧ w.cell? ⟨b, o + i * 11 + 9, none⟩ = some (.int .i64 x.te) ∧ w.cell? ⟨b, o + i * 11 + 10, none⟩ = some (.int .i64 x.pr)) :=
      Lib.hid (fun i x hx => ⟨hr i x hx 0 _ rfl, hr i x hx 1 _ rfl, hr i x hx 2 _ rfl, hr i x hx 3 _ rfl, hr i x hx 4 _ rfl, hr i x hx 5 _ rfl, hr i x hx 6 _ rfl, hr i x hx 7 _ rfl, hr i x hx 8 _ rfl, hr i x hx 9 _ rfl, hr i x hx 10 _ rfl⟩)
    clear hf hz hm hr hv
    refine lay_start ?_
    go_enter Tryz.func95, Tryz.ntmps95
    go_wp2_with fail
    go_loopw [8] (fun i wr => ∃ (k : Nat) (d : Ext), k ≤ m ∧ i = .int .i64 k ∧ wr = lay w [.inr d] ∧ idxR p l 0 = idxR p (l.drop k) k) (fun i _ => m - (intOf i).toNat)
    case atStart => exact ⟨0, noExt _, Nat.zero_le _, rfl, (bw_noExt _).symm, rfl⟩
    case round =>
      obtain ⟨k, d, hk, rfl, rfl, hA⟩ := hrel
      have HA := Lib.hid hA
      clear hA
      by_cases hlt : k < m
      · obtain ⟨x, hx⟩ : ∃ x, l[k]? = some x := ⟨_, List.getElem?_eq_getElem (by rw [HM.out]; exact hlt)⟩
        obtain ⟨e0, e1, e2, e3, e4, e5, e6, e7, e8, e9, e10⟩ := HR.out k x hx
        have H1 : Hid (Calls Tryz.prog g (.agg #[.string x.body, .int .i64 x.limb, .int .i64 x.lo, .int .i64 x.hi, .int .i64 x.hs, .int .i64 x.wi, .int .i64 x.hz, .int .i64 x.ey, .int .i64 x.sh, .int .i64 x.te, .int .i64 x.pr] :: lb).toArray (lay w [.inr d]) fun e w' => e = .returned (.bool (p x)) ∧ ∃ d, w' = bw w d) := Lib.hid (HF.out x (List.mem_of_getElem? hx) d)
        cases ho : p x
        · have HN := Lib.hid (idxR_miss hx ho HA.out)
          rw [ho] at H1
          clear ho hx
          obtain ⟨y0, y1, y2, y3, y4, y5, y6, y7, y8, y9, y10⟩ := x
          dsimp only at e0 e1 e2 e3 e4 e5 e6 e7 e8 e9 e10 H1
          go_wp2_with (refine H1.out.mono ?_; rintro e w' ⟨rfl, d1, rfl⟩)
          go_roundw
          case rel => exact ⟨k + 1, d1, by omega, by go_num, rfl, HN.out⟩
          case measure => simp [intOf]; omega
        · have HN := Lib.hid (idxR_got hx ho HA.out)
          rw [ho] at H1
          clear ho hx
          obtain ⟨y0, y1, y2, y3, y4, y5, y6, y7, y8, y9, y10⟩ := x
          dsimp only at e0 e1 e2 e3 e4 e5 e6 e7 e8 e9 e10 H1
          go_wp2_with (refine H1.out.mono ?_; rintro e w' ⟨rfl, d1, rfl⟩)
          go_ret
          exact ⟨ret_int HN.out, d1, rfl⟩
      · have HN := Lib.hid (idxR_end (k := k) (by rw [HM.out]; omega) HA.out)
        go_wp2
        go_ret
        exact ⟨ret_int HN.out, lay_ex _ _⟩
set_option maxHeartbeats 1000000 in
theorem sg_ContainsFunc (g : FuncId) (lb : List Value) (p : SgV → Bool) (v : Value) (l : List SgV) (w : World) (hv : SlG sgR w v l)
    (eI : ∀ args w, (callFunc g args).run Tryz.prog w = .ok (.enter g args) w)
    (hf : ∀ x ∈ l, ∀ d, Calls Tryz.prog g (.agg (sgR.enc x).toArray :: lb).toArray (bw w d) fun e w' => e = .returned (.bool (p x)) ∧ ∃ d, w' = bw w d) :
    Calls Tryz.prog 51 #[v, .func (.func g) #[] lb.toArray] w fun e w' => e = .returned (.bool (l.any p)) ∧ ∃ d, w' = bw w d := by
  have H := Lib.hid (sg_IndexFunc g lb p v l w hv eI hf)
  have HS := Lib.hid (idxR_any p l 0)
  generalize idxR p l 0 = x at *
  generalize l.any p = y at *
  clear hf eI hv
  refine lay_start ?_
  go_enter Tryz.func51, Tryz.ntmps51
  go_wp2_with (go_at_call 95; refine H.out.mono ?_; rintro e w' ⟨rfl, d, rfl⟩)
  go_ret
  exact ⟨ret_bool HS.out, _, rfl⟩
/-- The middle of a sight's time. -/
def midI (s : SgV) : Int := (s.lo + s.hi) / 2
/-- Bounds of a time. -/
structure SgT (s : SgV) : Prop where
  lo : -70368744177664 ≤ s.lo
  le : s.lo ≤ s.hi
  hi : s.hi ≤ 70368744177664
theorem SgT.mid {s : SgV} (h : SgT s) : -70368744177664 ≤ midI s ∧ midI s ≤ 70368744177664 ∧ s.lo ≤ midI s ∧ midI s ≤ s.hi := by
  have h1 := h.lo; have h2 := h.le; have h3 := h.hi
  unfold midI; omega
set_option maxHeartbeats 400000 in
set_option maxRecDepth 100000 in
theorem av_middle (s : SgV) (w : World) (h : SgT s) :
    Calls Tryz.prog 54 #[s.val] w fun e w' => e = .returned (.int .i64 (midI s)) ∧ ∃ d, w' = bw w d := by
  have h1 := h.lo; have h2 := h.le; have h3 := h.hi
  have k1 : IntKind.i64.wrap (s.lo + s.hi) = s.lo + s.hi := IntWalk.i64_in _ (by omega)
  have HF := Lib.hid (fun W => av_floor (s.lo + s.hi) 2 W (by decide) (by omega) (by omega))
  rw [sg_val]
  unfold midI
  generalize (s.lo + s.hi) / 2 = m at *
  clear h h1 h2 h3
  obtain ⟨body, limb, lo, hi, hs, wi, hz, ey, sh, te, pr⟩ := s
  dsimp only at *
  refine lay_start ?_
  go_enter Tryz.func54, Tryz.ntmps54
  go_wp2_with (go_at_call 56; refine (HF.out _).mono ?_; rintro e w' ⟨rfl, rfl⟩)
  go_ret
  exact ⟨rfl, lay_ex _ _⟩
/-- Sights of one kind. -/
structure Like (a b : SgV) : Prop where
  body : a.body.toList = b.body.toList
  limb : a.limb = b.limb
  hz : a.hz = b.hz
  ey : a.ey = b.ey
  sh : a.sh = b.sh
  te : a.te = b.te
  pr : a.pr = b.pr
instance (a b : SgV) : Decidable (Like a b) := decidable_of_iff (a.body.toList = b.body.toList ∧ a.limb = b.limb ∧ a.hz = b.hz ∧ a.ey = b.ey ∧ a.sh = b.sh ∧ a.te = b.te ∧ a.pr = b.pr)
  ⟨fun ⟨h1, h2, h3, h4, h5, h6, h7⟩ => ⟨h1, h2, h3, h4, h5, h6, h7⟩, fun ⟨h1, h2, h3, h4, h5, h6, h7⟩ => ⟨h1, h2, h3, h4, h5, h6, h7⟩⟩
def likB (a b : SgV) : Bool := decide (Like a b)
set_option maxHeartbeats 1000000 in
set_option maxRecDepth 100000 in
theorem av_like (a b : SgV) (w : World) :
    Calls Tryz.prog 98 #[a.val, b.val] w fun e w' => e = .returned (.bool (likB a b)) ∧ ∃ d, w' = bw w d := by
  obtain ⟨r, hr⟩ : ∃ r, likB a b = r := ⟨_, rfl⟩
  rw [hr, sg_val, sg_val]
  have HR := Lib.hid hr
  have HY : Hid (Like a b → r = true) := Lib.hid fun h => by rw [← HR.out]; exact decide_eq_true h
  have HN : Hid (¬ Like a b → r = false) := Lib.hid fun h => by rw [← HR.out]; exact decide_eq_false h
  clear hr
  refine lay_start ?_
  go_enter Tryz.func98, Tryz.ntmps98
  go_wp2_with fail
  go_region
  go_wp2_with fail
  all_goals go_ret
  all_goals refine ⟨?_, by rw [bw_drewExt, lay_bw]; exact lay_ex _ _⟩
  all_goals first
    | (rw [HY.out ⟨by assumption, by assumption, by assumption, by assumption, by assumption, by assumption, by assumption⟩]; rfl)
    | (rw [HN.out (fun h => absurd h.body (by assumption))]; rfl)
    | (rw [HN.out (fun h => absurd h.limb (by assumption))]; rfl)
    | (rw [HN.out (fun h => absurd h.hz (by assumption))]; rfl)
    | (rw [HN.out (fun h => absurd h.ey (by assumption))]; rfl)
    | (rw [HN.out (fun h => absurd h.sh (by assumption))]; rfl)
    | (rw [HN.out (fun h => absurd h.te (by assumption))]; rfl)
    | (rw [HN.out (fun h => absurd h.pr (by assumption))]; rfl)
end Go.Proofs.YtmomoeagnkjbiaaGreat

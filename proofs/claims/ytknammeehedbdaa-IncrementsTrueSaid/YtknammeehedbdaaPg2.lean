/- Lists of numbers in a range: package page's and the reference's; valid tracks. -/
import Derived.Test.YtknammeehedbdaaProg
import Derived.Test.YtknammeehedbdaaLay
import Derived.Test.YtknammeehedbdaaRegion
import Derived.Test.YtknammeehedbdaaMix
import Derived.WalkKit
import Derived.WalkSpells
import Derived.WalkLawsBesides
import Derived.Lib.Hide
import Derived.BigQuiet
import Derived.Deep.RegionWith
import Derived.Test.YtknammeehedbdaaPlain
import Derived.Test.YtknammeehedbdaaTrk
import Derived.Test.YtknammeehedbdaaPg1
namespace Go.Proofs.Ytknammeehedbdaa
open Go.RowKit

def InL (l : List Int) (lo hi : Int) (k : Nat) : Prop := ∀ i, i < k → lo ≤ l.getD i 0 ∧ l.getD i 0 ≤ hi
noncomputable def inLB (l : List Int) (lo hi : Int) : Bool := @decide (InL l lo hi l.length) (Classical.propDecidable _)
theorem inLB_iff {l : List Int} {lo hi : Int} : inLB l lo hi = true ↔ InL l lo hi l.length := by unfold inLB; simp
theorem inLB_no {l : List Int} {lo hi : Int} (h : ¬ InL l lo hi l.length) : inLB l lo hi = false := by cases e : inLB l lo hi; rfl; exact absurd (inLB_iff.1 e) h
def outB (n lo hi : Int) : Bool := decide (n < lo ∨ hi < n)
theorem outB_iff {n lo hi : Int} : outB n lo hi = true ↔ n < lo ∨ hi < n := by simp [outB]
set_option maxHeartbeats 400000 in
theorem page_within1 (n lo hi : Int) (b1 b2 : Nat) (w : World) (c1 : w.cell? ⟨b1, 0, none⟩ = some (.int .i64 lo)) (c2 : w.cell? ⟨b2, 0, none⟩ = some (.int .i64 hi)) :
    Calls Try.prog 86 #[.int .i64 n, .pointer (some ⟨b1, 0, none⟩), .pointer (some ⟨b2, 0, none⟩)] w fun e w' => e = .returned (.bool (outB n lo hi)) ∧ w' = w := by
  go_enter Try.func86, Try.ntmps86
  go_wp2
  all_goals go_ret
  all_goals exact ⟨ret_bool (by rw [Bool.eq_iff_iff]; simp [outB, *]; try omega), rfl⟩
/-- The first index of a number out of the range, or -1. -/
def idxO (l : List Int) (lo hi : Int) : Nat → Nat → Int
  | _, 0 => -1
  | k, f + 1 => if outB (l.getD k 0) lo hi = true then k else idxO l lo hi (k + 1) f
theorem idxO_spec (l : List Int) (lo hi : Int) : ∀ f k, InL l lo hi k → k + f = l.length → decide (0 ≤ idxO l lo hi k f) = !inLB l lo hi
  | 0, k, h, e => by
    have : inLB l lo hi = true := inLB_iff.2 (by rw [← e]; exact h)
    rw [this]; rfl
  | f + 1, k, h, e => by
    unfold idxO
    split
    · rename_i ho
      have : inLB l lo hi = false := inLB_no fun hh => by have := hh k (by omega); have := outB_iff.1 ho; omega
      rw [this]
      simp
    · rename_i ho
      exact idxO_spec l lo hi f (k + 1) (fun i hi' => by
        by_cases e : i = k
        · subst e; rw [outB_iff] at ho; omega
        · exact h i (by omega)) (by omega)
theorem idxO_hit {l : List Int} {lo hi : Int} {k f : Nat} (h : outB (l.getD k 0) lo hi = true) : idxO l lo hi k (f + 1) = k := by unfold idxO; rw [if_pos h]
theorem idxO_miss {l : List Int} {lo hi : Int} {k f : Nat} (h : outB (l.getD k 0) lo hi = false) : idxO l lo hi k (f + 1) = idxO l lo hi (k + 1) f := by
  show (if _ then _ else _) = _
  rw [if_neg (by rw [h]; exact Bool.false_ne_true)]
theorem idxO_go {l : List Int} {lo hi : Int} {k m : Nat} (h : outB (l.getD k 0) lo hi = false) (hk : k < m) (e : idxO l lo hi 0 m = idxO l lo hi k (m - k)) : idxO l lo hi 0 m = idxO l lo hi (k + 1) (m - (k + 1)) := by
  rw [e, show m - k = m - (k + 1) + 1 by omega, idxO_miss h]
theorem idxO_got {l : List Int} {lo hi : Int} {k m : Nat} (h : outB (l.getD k 0) lo hi = true) (hk : k < m) (e : idxO l lo hi 0 m = idxO l lo hi k (m - k)) : (k : Int) = idxO l lo hi 0 m := by
  rw [e, show m - k = m - (k + 1) + 1 by omega, idxO_hit h]
set_option maxHeartbeats 1000000 in
theorem slices_IndexFunc (v : Value) (l : List Int) (lo hi : Int) (b1 b2 : Nat) (w : World) (hv : Lst w v l) (c1 : w.cell? ⟨b1, 0, none⟩ = some (.int .i64 lo)) (c2 : w.cell? ⟨b2, 0, none⟩ = some (.int .i64 hi)) :
    Calls Try.prog 90 #[v, .func (.func 86) #[] #[.pointer (some ⟨b1, 0, none⟩), .pointer (some ⟨b2, 0, none⟩)]] w fun e w' => e = .returned (.int .i64 (idxO l lo hi 0 l.length)) ∧ w' = w := by
  obtain ⟨a, cap, rfl, g1, -, k1⟩ := hv
  have W1 := Lib.hid (fun n => page_within1 n lo hi b1 b2 w c1 c2)
  clear c1 c2
  obtain ⟨m, hm⟩ : ∃ m, m = l.length := ⟨_, rfl⟩
  rw [← hm] at g1 k1
  rw [← hm]
  by_cases hz : m = 0
  · subst hz
    clear k1 hm
    go_enter Try.func90, Try.ntmps90
    go_wp2_with fail
    refine wp_loop_rounds 1 ?_
    rw [rounds_succ]
    go_wp2
    go_ret
    exact ⟨rfl, rfl⟩
  · obtain ⟨b, o, rfl, s1, r1⟩ := k1 (by rintro rfl; simp at hm; omega)
    have HR := Lib.hid r1
    clear r1 k1 hm
    go_enter Try.func90, Try.ntmps90
    go_wp2_with fail
    go_loop [8] (fun i => ∃ k : Nat, k ≤ m ∧ i = .int .i64 k ∧ idxO l lo hi 0 m = idxO l lo hi k (m - k)) (fun i => m - (intOf i).toNat)
    case atStart => exact ⟨0, Nat.zero_le _, rfl, rfl⟩
    case round =>
      obtain ⟨k, hk, rfl, hA⟩ := hrel
      have HA := Lib.hid hA
      clear hA
      by_cases hlt : k < m
      · have e1 := HR.out k hlt
        obtain ⟨x, hx⟩ : ∃ x, x = l.getD k 0 := ⟨_, rfl⟩
        rw [← hx] at e1
        cases ho : outB x lo hi
        · have HN := Lib.hid (idxO_go (by rw [← hx]; exact ho) hlt HA.out)
          clear hx
          go_wp2_with (go_at_call 86; refine (W1.out _).mono ?_; rintro e w' ⟨rfl, rfl⟩)
          go_round
          case rel => exact ⟨k + 1, by omega, by go_num, HN.out⟩
          case measure => simp [intOf]; omega
        · have HN := Lib.hid (idxO_got (by rw [← hx]; exact ho) hlt HA.out)
          clear hx
          go_wp2_with (go_at_call 86; refine (W1.out _).mono ?_; rintro e w' ⟨rfl, rfl⟩)
          go_ret
          exact ⟨ret_int HN.out, rfl⟩
      · obtain rfl : k = m := by omega
        have HN : Hid ((-1 : Int) = idxO l lo hi 0 k) := Lib.hid (by rw [HA.out, Nat.sub_self]; rfl)
        go_wp2
        go_ret
        exact ⟨ret_int HN.out, rfl⟩
set_option maxHeartbeats 1000000 in
theorem slices_ContainsFunc (v : Value) (l : List Int) (lo hi : Int) (b1 b2 : Nat) (w : World) (hv : Lst w v l) (c1 : w.cell? ⟨b1, 0, none⟩ = some (.int .i64 lo)) (c2 : w.cell? ⟨b2, 0, none⟩ = some (.int .i64 hi)) :
    Calls Try.prog 85 #[v, .func (.func 86) #[] #[.pointer (some ⟨b1, 0, none⟩), .pointer (some ⟨b2, 0, none⟩)]] w fun e w' => e = .returned (.bool (!inLB l lo hi)) ∧ w' = w := by
  have W1 := slices_IndexFunc v l lo hi b1 b2 w hv c1 c2
  have HS := Lib.hid (idxO_spec l lo hi l.length 0 (fun i hi => absurd hi (Nat.not_lt_zero i)) (by omega))
  generalize idxO l lo hi 0 l.length = x at *
  have HW := Lib.hid W1
  clear W1 hv c1 c2
  go_enter Try.func85, Try.ntmps85
  go_wp2_with (go_at_call 90; refine HW.out.mono ?_; rintro e w' ⟨rfl, rfl⟩)
  go_ret
  exact ⟨ret_bool HS.out, rfl⟩
set_option maxHeartbeats 1000000 in
theorem page_within (v : Value) (l : List Int) (lo hi : Int) (w : World) (hv : Lst w v l) :
    Calls Try.prog 77 #[v, .int .i64 lo, .int .i64 hi] w fun e w' => e = .returned (.bool (inLB l lo hi)) ∧ ∃ d, w' = bw w d := by
  have HC := Lib.hid (fun L b1 b2 c1 c2 => slices_ContainsFunc v l lo hi b1 b2 (lay w L) (hv.lay L) c1 c2)
  clear hv
  refine lay_start ?_
  go_enter Try.func77, Try.ntmps77
  go_wp2_with (go_at_call 85; refine (HC.out _ _ _ (by go_simp) (by go_simp)).mono ?_; rintro e w' ⟨rfl, rfl⟩)
  go_ret
  exact ⟨ret_bool (by simp), lay_ex _ _⟩
/-- A track is right. -/
structure TrkOk (t : TrkV) : Prop where
  nm : nameB t.s = true
  lg : t.g.length = 25
  ld : t.d.length = 25
  bg : inLB t.g 0 215999 = true
  bd : inLB t.d (-54000) 54000 = true
  bp : inLB [t.p] 0 200 = true
  bq : inLB [t.q] 0 620 = true
  br : inLB [t.r] 0 1000 = true
noncomputable def trkB (t : TrkV) : Bool := nameB t.s && ((t.g.length : Int) == 25) && ((t.d.length : Int) == 25) && inLB t.g 0 215999 && inLB t.d (-54000) 54000 && inLB [t.p] 0 200 && inLB [t.q] 0 620 && inLB [t.r] 0 1000
theorem trkB_iff {t : TrkV} : trkB t = true ↔ TrkOk t := by
  unfold trkB
  simp only [Bool.and_eq_true, beq_iff_eq]
  constructor
  · rintro ⟨⟨⟨⟨⟨⟨⟨h1, h2⟩, h3⟩, h4⟩, h5⟩, h6⟩, h7⟩, h8⟩; exact ⟨h1, by omega, by omega, h4, h5, h6, h7, h8⟩
  · rintro ⟨h1, h2, h3, h4, h5, h6, h7, h8⟩; exact ⟨⟨⟨⟨⟨⟨⟨h1, by omega⟩, by omega⟩, h4⟩, h5⟩, h6⟩, h7⟩, h8⟩
theorem lst_one (w : World) (L : List (Obj ⊕ Ext)) (p : Int) (t : TypeId) (hp : (Lit.int .i64 p).wf = true) : Lst (lay w (.inl (.cells #[.int .i64 p] t) :: L)) (.slice (some ⟨posn w (shp L), 0, none⟩) 1 1) [p] := by
  refine ⟨_, 1, rfl, by simp, fun i hi => ?_, fun _ => ⟨posn w (shp L), 0, rfl, ?_, fun i hi => ?_⟩⟩
  · obtain rfl : i = 0 := by have : i < 1 := hi; omega
    exact hp
  · rw [lay_size]; simp only [shp, posn, List.sum_cons]; omega
  · obtain rfl : i = 0 := by have : i < 1 := hi; omega
    have hl : (shp L).length < (Sum.inl (.cells #[.int .i64 p] t) :: L : List (Obj ⊕ Ext)).length := by rw [shp_len]; simp
    have e0 : (Sum.inl (.cells #[.int .i64 p] t) :: L : List (Obj ⊕ Ext)).length - (shp L).length = 1 := by rw [shp_len]; simp
    rw [lay_cell _ _ _ _ hl (by rw [e0]; rfl) (by rw [e0]; rfl), e0]
    rfl
set_option maxHeartbeats 2000000 in
set_option maxRecDepth 100000 in
theorem page_validTrack (v : Value) (t : TrkV) (w : World) (hv : Trk w v t) :
    Calls Try.prog 71 #[v] w fun e w' => e = .returned (.bool (trkB t)) ∧ ∃ d, w' = bw w d := by
  obtain ⟨vg, vd, rfl, hs, hg, hd, hp, hq, hr⟩ := hv
  obtain ⟨s, gs, ds, p, q, r⟩ := t
  simp only at hs hg hd hp hq hr ⊢
  have HG := Lib.hid hg
  have HD := Lib.hid hd
  obtain ⟨ag, cg, rfl, g1, -, -⟩ := hg
  obtain ⟨ad, cd, rfl, d1, -, -⟩ := hd
  have HP := Lib.hid hp
  have HQ := Lib.hid hq
  have HR := Lib.hid hr
  clear hp hq hr
  refine lay_start ?_
  go_enter Try.func71, Try.ntmps71
  go_wp2_with (first | (go_at_call 76; refine (dec_IsName _ _ hs).mono ?_; rintro e w' ⟨rfl, rfl⟩) | (go_at_call_of 77 (Value.int .i64 215999); refine (page_within _ gs _ _ _ (HG.out.lay _)).mono ?_; rintro e w' ⟨rfl, d, rfl⟩) | (go_at_call_of 77 (Value.int .i64 54000); refine (page_within _ ds _ _ _ (HD.out.lay _)).mono ?_; rintro e w' ⟨rfl, d, rfl⟩) | (go_at_call_of 77 (Value.int .i64 200); refine (page_within _ [p] _ _ _ (by exact lst_one _ _ _ _ HP.out)).mono ?_; rintro e w' ⟨rfl, d, rfl⟩) | (go_at_call_of 77 (Value.int .i64 620); refine (page_within _ [q] _ _ _ (by exact lst_one _ _ _ _ HQ.out)).mono ?_; rintro e w' ⟨rfl, d, rfl⟩) | (go_at_call_of 77 (Value.int .i64 1000); refine (page_within _ [r] _ _ _ (by exact lst_one _ _ _ _ HR.out)).mono ?_; rintro e w' ⟨rfl, d, rfl⟩))
  all_goals go_ret
  all_goals exact ⟨ret_bool (by simp [trkB, *]), lay_ex _ _⟩
end Go.Proofs.Ytknammeehedbdaa

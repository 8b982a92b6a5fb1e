/- Contracts and plain laws, several texts in one: So4; Val; Va2; Va3 -/
import Derived.Test.YtmomoeagnkjbiaaGreatProg
import Derived.WalkKit
import Derived.WalkSpells
import Derived.WalkLawsBesides
import Derived.Lib.Hide
import Derived.BigQuiet
import Derived.RangeFuncNested
import Derived.RangeFuncBox
import Derived.RangeFuncLeaves
import Derived.Shelf.Abstract
import Derived.OwnWalkIn
import Derived.TacticsInMore
import Derived.LoopNIn
import Derived.LoopIn
import Derived.RangeFuncFrom
import Derived.RangeFuncWrites
import Derived.Maps.AppendAt
import Derived.Test.YtmomoeagnkjbiaaGreatCAA
import Derived.Test.YtmomoeagnkjbiaaGreatCAB
import Derived.Test.YtmomoeagnkjbiaaGreatCAE
/- The reference of average: factored, Reject. -/
namespace Go.Proofs.YtmomoeagnkjbiaaGreat
open Go.RowKit

/-- The error of a list and a factor, and the outliers. -/
def rejE (l : List Int) (f : Int) : Int := if l.length < 1 ∨ 1000 < l.length then 3 else if f < 1 ∨ 100 < f ∨ outB l 1099511627776 = true then 2 else 0
def rejL (l : List Int) (f : Int) : List Int := if rejE l f = 0 then outI l f else []
def RwE (w : World) (l : List Int) (x : Int) (e : Ending) (w' : World) : Prop := ∃ v d, e = .returned (.tuple #[v, .int .i64 x]) ∧ w' = bw w d ∧ Ow (bw w d) w.heap.size v l
theorem rejL_ne {l : List Int} {f : Int} (h : rejE l f ≠ 0) : rejL l f = [] := if_neg h
theorem rejL_eq {l : List Int} {f : Int} (h : rejE l f = 0) : rejL l f = outI l f := if_pos h
theorem outB_bd {l : List Int} {B : Int} (h : outB l B = false) : Bd l B := by
  intro i hi
  unfold outB at h
  have := List.any_eq_false.1 h (nth l i) (by rw [nth_lt hi]; exact List.getElem_mem hi)
  simp at this; omega
theorem outB_out {l : List Int} {B : Int} {i : Nat} (hi : i < l.length) (h : nth l i < -B ∨ B < nth l i) : outB l B = true := by
  unfold outB
  refine List.any_eq_true.2 ⟨nth l i, by rw [nth_lt hi]; exact List.getElem_mem hi, ?_⟩
  simp; omega
theorem outB_in {l : List Int} {B : Int} (h : Bd l B) : outB l B = false := by
  unfold outB
  refine List.any_eq_false.2 fun x hx => ?_
  have := h.mem x hx
  simp; omega
set_option maxRecDepth 100000 in
theorem r23_factored (f : Int) (w : World) :
    Calls Tryz.prog 101 #[.int .i64 f] w fun e w' => e = .returned (.bool (decide (1 ≤ f ∧ f ≤ 100))) ∧ ∃ d, w' = bw w d := by
  by_cases h1 : f < 1
  · rw [decide_eq_false (by omega)]
    have y1 : ¬ 1 ≤ f := by omega
    refine lay_start ?_
    go_enter Tryz.func101, Tryz.ntmps101
    go_wp2_with fail
    go_ret
    exact ⟨rfl, lay_ex _ _⟩
  · have y1 : 1 ≤ f := by omega
    by_cases h2 : f ≤ 100
    · rw [decide_eq_true (by omega)]
      refine lay_start ?_
      go_enter Tryz.func101, Tryz.ntmps101
      go_wp2_with fail
      go_ret
      exact ⟨rfl, lay_ex _ _⟩
    · rw [decide_eq_false (by omega)]
      refine lay_start ?_
      go_enter Tryz.func101, Tryz.ntmps101
      go_wp2_with fail
      go_ret
      exact ⟨rfl, lay_ex _ _⟩
theorem rwe_nil {w : World} {L : List (Obj ⊕ Ext)} {x : Int} {e : Ending} (he : e = .returned (.tuple #[.slice none 0 0, .int .i64 x])) : RwE w [] x e (lay w L) := by
  obtain ⟨d, hd⟩ := lay_ex w L
  exact ⟨_, d, he, hd, Ow.nil _ _⟩
end Go.Proofs.YtmomoeagnkjbiaaGreat
/- slices.Values at ints: its function value, for every loop body that keeps what lay ahead. (The lines are the kit's worked text Test/GgSlicesIterAtTheDump, turned to this program.) -/
namespace Go.Proofs.YtmomoeagnkjbiaaGreat
open Go.RowKit Go.Shelf
attribute [local go_sem] Oper.semAt_some

/-- WHAT HAS COME WHEN k ROUNDS ARE OVER: f 0, .., f (k - 1). -/
def rgU {α : Type} (f : Nat → α) (k : Nat) : List α := (List.range k).map f
theorem rgU_succ {α : Type} (f : Nat → α) (k : Nat) : rgU f (k + 1) = rgU f k ++ [f k] := by simp [rgU, List.range_succ]
theorem rgU_length {α : Type} (f : Nat → α) (k : Nat) : (rgU f k).length = k := by simp [rgU]
theorem rgU_all (zs : List Int) : rgU (fun j => zs[j]?.getD 0) zs.length = zs := by
  apply List.ext_getElem
  · simp [rgU]
  · intro i h1 h2
    simp [rgU, h2]

set_option maxRecDepth 100000 in
set_option maxHeartbeats 2000000 in
/-- **slices.Values's closure: 'for _, v := range s { if !yield(v) { return } }': FOR EVERY LOOP BODY THAT KEEPS WHAT LAY BELOW n₀.** -/
theorem vl_values1_in (F : Fence) (n : Nat) (hV1 : F.fn 142) (hro : F.round = none) (hn : 1 ≤ n) (l Bs n₀ b off len cap : Nat) (zs : List Int) (hreach : len * 8 ≤ 140737488351232) (hb : b < n₀) (J Jx : List Int → World → Prop)
    (hY : ∀ pre x W, J pre W → pre.length < len → YieldAt F (n - 1) Tryz.prog l #[.int .i64 x] W fun e W' =>
      (e = .returned (.bool true) ∧ J (pre ++ [x]) W' ∧ Below n₀ W W') ∨ (e = .returned (.bool false) ∧ Jx (pre ++ [x]) W'))
    (W : World) (hBs : W.cell? ⟨Bs, 0, none⟩ = some (.slice (some ⟨b, off, none⟩) len cap)) (hc : ∀ j, j < len → W.cell? ⟨b, off + j, none⟩ = some (.int .i64 (zs[j]?.getD 0))) (h0 : J [] W) :
    CallsIn F n Tryz.prog 142 #[.func (.yield l) #[] #[], .pointer (some ⟨Bs, 0, none⟩)] W fun e W' => (∃ v, e = .returned v) ∧
      ((∃ ys, ys = rgU (fun j => zs[j]?.getD 0) len ∧ J ys W') ∨ (∃ pre, (∃ k, k ≤ len ∧ pre = rgU (fun j => zs[j]?.getD 0) k) ∧ Jx pre W')) := by
  refine callsIn_of_wp Tryz.func142 rfl hV1 ?_ hro
  simp only [Tryz.ntmps142, List.size_toArray, List.length_cons, List.length_nil, Nat.reduceAdd, Nat.reduceSub, Array.replicate_succ, Array.replicate_zero, List.push_toArray, List.append_toArray, List.nil_append, List.cons_append]
  gi_wp2
  gi_loopw [7] (fun i wr => ∃ k : Nat, k ≤ len ∧ i = .int .i64 k ∧ J (rgU (fun j => zs[j]?.getD 0) k) wr ∧ Below n₀ W wr)
    (fun i _ => len - (intOf i).toNat)
  case atStart => exact ⟨0, Nat.zero_le _, rfl, h0, Below.refl _ _⟩
  case round =>
    obtain ⟨k, hk, rfl, hJs, hnx⟩ := hrel
    have hcx : k < len → wr.cell? ⟨b, off + k, none⟩ = some (.int .i64 (zs[k]?.getD 0)) := fun h => (hnx.cell (p := ⟨b, off + k, none⟩) hb).trans (hc k h)
    by_cases hlt : k < len
    · obtain ⟨fn, tmps, assign, body, hy, hR⟩ := hY _ (zs[k]?.getD 0) wr hJs (by rw [rgU_length]; exact hlt)
      have hcx' := hcx hlt
      gi_wp2
      refine hR.mono ?_
      rintro e W3 (⟨rfl, hJ3, hk3⟩ | ⟨rfl, hJx3⟩)
      · -- THE ROUND GOES ON
        gi_wp2
        go_roundw
        case rel => exact ⟨k + 1, by omega, by simp, by rw [rgU_succ]; exact hJ3, hnx.trans hk3⟩
        case measure => simp [intOf]; omega
      · gi_wp2
        refine bodyPost_ret (results_none rfl _ _ _) rfl ?_
        exact ⟨⟨_, rfl⟩, .inr ⟨_, ⟨k + 1, by omega, (rgU_succ _ _).symm⟩, hJx3⟩⟩
    · obtain rfl : k = len := by omega
      gi_wp2
      go_end0
      exact ⟨⟨_, rfl⟩, .inl ⟨_, rfl, hJs⟩⟩

theorem rgU_take (zs : List Int) {k : Nat} (hk : k ≤ zs.length) : rgU (fun j => zs[j]?.getD 0) k = zs.take k := by
  apply List.ext_getElem
  · simp [rgU, hk]
  · intro i h1 h2
    have : i < zs.length := by simp [rgU] at h1; omega
    simp [rgU, this]

/-- THE SLICE VALUE sv HOLDS THE ints zs, in a block below n₀; or it is nil and there are none. -/
def IntsV (n₀ : Nat) (W : World) (sv : Value) (zs : List Int) : Prop :=
  (sv = .slice none 0 0 ∧ zs = []) ∨ ∃ b off cap, sv = .slice (some ⟨b, off, none⟩) zs.length cap ∧ b < n₀ ∧ ∀ j, j < zs.length → W.cell? ⟨b, off + j, none⟩ = some (.int .i64 (zs[j]?.getD 0))
theorem IntsV.below {n₀ : Nat} {A B : World} (h : Below n₀ A B) {sv : Value} {zs : List Int} : IntsV n₀ A sv zs → IntsV n₀ B sv zs
  | .inl e => .inl e
  | .inr ⟨b, off, cap, e, hb, hc⟩ => .inr ⟨b, off, cap, e, hb, fun j hj => (h.cell (p := ⟨b, off + j, none⟩) hb).trans (hc j hj)⟩

set_option maxRecDepth 100000 in
set_option maxHeartbeats 1000000 in
/-- .. at the nil slice: no round. -/
theorem vl_values1_nil_in (F : Fence) (n : Nat) (hV1 : F.fn 142) (hro : F.round = none) (l Bs : Nat) (J : List Int → World → Prop) (W : World) (hBs : W.cell? ⟨Bs, 0, none⟩ = some (.slice none 0 0)) (h0 : J [] W) :
    CallsIn F n Tryz.prog 142 #[.func (.yield l) #[] #[], .pointer (some ⟨Bs, 0, none⟩)] W fun e W' => (∃ v, e = .returned v) ∧ J [] W' := by
  refine callsIn_of_wp Tryz.func142 rfl hV1 ?_ hro
  simp only [Tryz.ntmps142, List.size_toArray, List.length_cons, List.length_nil, Nat.reduceAdd, Nat.reduceSub, Array.replicate_succ, Array.replicate_zero, List.push_toArray, List.append_toArray, List.nil_append, List.cons_append]
  gi_wp2
  gi_loopw [7] (fun i wr => i = .int .i64 0 ∧ J [] wr) (fun _ _ => 0)
  case atStart => exact ⟨rfl, h0⟩
  case round =>
    obtain ⟨rfl, hJs⟩ := hrel
    gi_wp2
    go_end0
    exact ⟨⟨_, rfl⟩, hJs⟩

set_option maxHeartbeats 1000000 in
/-- **slices.Values(s)**: the slice value is boxed; the function value captures the box. -/
theorem vl_values_in (F : Fence) (n : Nat) (hV : F.fn 92) (hro : F.round = none) (a : Option Addr) (len cap : Nat) (w : World) :
    CallsIn F n Tryz.prog 92 #[.slice a len cap] w fun e w' => e = .returned (.func (.func 142) #[] #[.pointer (some ⟨w.heap.size, 0, none⟩)]) ∧ w' = w.alloc (.cells #[.slice a len cap] 41) := by
  refine callsIn_of_wp Tryz.func92 rfl hV ?_ hro
  simp only [Tryz.ntmps92, List.size_toArray, List.length_cons, List.length_nil, Nat.reduceAdd, Nat.reduceSub, Array.replicate_succ, Array.replicate_zero, List.push_toArray, List.append_toArray, List.nil_append, List.cons_append]
  gi_wp2
  go_ret
  exact ⟨rfl, rfl⟩

/-- **slices.Values(s) HANDS BACK A VALUE THAT 'SeqStopsK', AT 'Kp := Below n₀'**: all of zs, in order; or a prefix. EVERY SLICE OF ints WITHIN THE REACH, THE nil ONE TOO. -/
theorem vl_values_stops (F : Fence) (n : Nat) (hV1 : F.fn 142) (hro : F.round = none) (hn : 1 ≤ n) (Bs n₀ : Nat) (sv : Value) (zs : List Int) (hreach : zs.length * 8 ≤ 140737488351232) (w : World) (hBs : Bs < w.heap.size) (hn₀ : n₀ ≤ w.heap.size)
    (hc : w.cell? ⟨Bs, 0, none⟩ = some sv) (hI : IntsV n₀ w sv zs) :
    SeqStopsK F n Tryz.prog 142 #[.pointer (some ⟨Bs, 0, none⟩)] (fun x : Int => #[Value.int .i64 x]) (Below n₀) (fun ys => ys = zs) (fun pre => pre <+: zs) zs.length w := fun l J Jx W hW _ _ hY h0 => by
  have hc' := (hW.cell (p := ⟨Bs, 0, none⟩) hBs).trans hc
  rcases hI.below (hW.mono hn₀) with ⟨rfl, rfl⟩ | ⟨b, off, cap, rfl, hb, hcs⟩
  · exact (vl_values1_nil_in F n hV1 hro l Bs J W hc' h0).mono fun e W' ⟨he, hj⟩ => ⟨he, .inl ⟨_, rfl, hj⟩⟩
  · refine (vl_values1_in F n hV1 hro hn l Bs n₀ b off zs.length cap zs hreach hb J Jx hY W hc' hcs h0).mono ?_
    rintro e W' ⟨he, ⟨ys, rfl, hj⟩ | ⟨pre, ⟨k, hk, rfl⟩, hj⟩⟩
    · exact ⟨he, .inl ⟨_, rgU_all zs, hj⟩⟩
    · exact ⟨he, .inr ⟨_, by rw [rgU_take zs hk]; exact List.take_prefix _ _, hj⟩⟩

end Go.Proofs.YtmomoeagnkjbiaaGreat
/- slices.AppendSeq of slices.Values at ints. (The walk follows the kit's worked text Test/GgPosAtTheDump.) -/
namespace Go.Proofs.YtmomoeagnkjbiaaGreat
open Go.RowKit Go.Shelf
attribute [local go_sem] Oper.semAt_some

theorem info_int : (Tryz.prog.info? 3).map (fun i => (i.zero, i.size, i.bytes)) = some (some (.int .i64 0), 1, 8) := by kernel_rfl
set_option maxRecDepth 100000 in
set_option maxHeartbeats 2000000 in
theorem vl_append (F : Fence) (n : Nat) (hA : F.fn 168) (hV1 : F.fn 142) (hro : F.round = none) (hn : 3 ≤ n) (Bs : Nat) (sv : Value) (zs : List Int) (hlen : zs.length ≤ 1000000000) (w : World) (hBs : Bs < w.heap.size)
    (hc : w.cell? ⟨Bs, 0, none⟩ = some sv) (hI : IntsV w.heap.size w sv zs) :
    CallsIn F n Tryz.prog 168 #[.slice none 0 0, .func (.func 142) #[] #[.pointer (some ⟨Bs, 0, none⟩)]] w fun e W' => ∃ v, e = .returned v ∧ W'.ownsRow w.heap.size 3 1 v zs.length (zs.map (Value.int .i64)) ∧ Below w.heap.size w W' := by
  have h1 : 1 ≤ n := by omega
  obtain ⟨i0, hi, hz0, hz1, hz2⟩ := info_parts info_int
  refine callsIn_of_wp_marks Tryz.func168 rfl hA ?_ hro
  simp only [Tryz.ntmps168, List.size_toArray, List.length_cons, List.length_nil, Nat.reduceAdd, Nat.reduceSub, Array.replicate_succ, Array.replicate_zero, List.push_toArray, List.append_toArray, List.nil_append, List.cons_append]
  gi_wp2
  have bO := Boxed.new w 41 (.slice none 0 0)
  have hB0 : Below w.heap.size w (w.alloc (.cells #[.slice none 0 0] 41)) := (Below.refl _ w).alloc (Nat.le_refl _) _
  refine wpIn_rangeFunc_ownG hro h1 (gf := 142) (lb := #[.pointer (some ⟨Bs, 0, none⟩)]) rfl hV1 (enters_of Tryz.func142 (by kernel_rfl) rfl)
    (vl_values_stops F (n - 1) hV1 hro (by omega) Bs w.heap.size sv zs (by omega) _ (by simp; omega) (by simp) ((hB0.cell (p := ⟨Bs, 0, none⟩) hBs).trans hc) (hI.below hB0)) belowK_t (belowK_b (by simp)) (Below.refl _ _) (fun _ => rfl)
    (fun pre W => (∃ v, Boxed W w.heap.size 41 v ∧ W.ownsRow w.heap.size 3 1 v pre.length (pre.map (Value.int .i64)) ∧ (v = .slice none 0 0 ↔ pre = [])) ∧ Below w.heap.size w W)
    (fun _ _ _ => False)
    (OwnFrom.and (Own.from (holdsRow_own w.heap.size w.heap.size 41 3 1 (fun pre : List Int => pre.length) (fun pre => pre.map (Value.int .i64)) (fun pre v => v = .slice none 0 0 ↔ pre = [])) _) (ownFrom_below (Nat.le_refl _) (by simp)))
    (fun _ _ _ _ _ hs _ _ => hs)
    ⟨⟨_, bO, World.ownsRow_nil _ _ _ _, by simp⟩, hB0⟩
    (fun x => { tmps := #[.slice none 0 0, .func (.func 142) #[] #[.pointer (some ⟨Bs, 0, none⟩)], .pointer (some ⟨w.heap.size, 0, none⟩), undef, .slice none 0 0, .int .i64 x, .func (.func 142) #[] #[.pointer (some ⟨Bs, 0, none⟩)], .int .i64 x, undef, undef, undef, undef, undef], defers := [] }) ?assign ?body ?done ?stop
  case assign =>
    intro l x W K hK
    gi_wp2
    exact hK
  case body =>
    rintro l pre x W ⟨⟨v, hv, hrow, hnil⟩, hB⟩ hlt
    have hcb := hv.cell
    have hM : maxLen = 9223372036854775807 := by decide
    gi_wp2_with (gi_at_builtin; refine wpListIn_append_own _ rfl _ _ 41 rfl w.heap.size 3 i0 (.int .i64 0) 1 8 Tryz.underlying41 hi hz0 hz1 hz2 rfl (by decide) _ _ _ rfl (hrow.alloc _) ⟨W.heap.size, 0, none⟩ 1 1 [.int .i64 x] rfl rfl (cell_one_new _ _ _) (by simp [Value.oneCell']) (by omega) (by omega) (by have := hB.size; simp; omega) ?_; intro v' w1 hown' hgrow _; obtain ⟨g', cap', rfl⟩ := ownsRow_succ hown'; obtain ⟨hv1, hv2, hr2, hk2, hb2⟩ := hv.appended (by decide) hrow hB.size (Nat.le_refl _) hown' hgrow; have hc1 := hv1.cell; have hf1 := hv1.frozen)
    exact ⟨hk2.from _, hb2, ⟨_, hv2, by simpa using hr2, by simp⟩, hB.trans hb2⟩
  case done =>
    rintro D ys W hD rfl ⟨⟨v, hv, hrow, hnil⟩, hB⟩ hK
    have hcb := hv.cell
    gi_wp2
    refine ⟨by simp, .inl ⟨_, _, rfl, run_takeDeferred hK, ?_⟩⟩
    exact ⟨_, results_tmp rfl _ _ _, v, rfl, ownsRow_putObj hrow _ hK rfl, hB.trans (belowK_b (w := w) (Nat.le_refl _) W D _ _ (by simp at hD; omega) hK rfl rfl)⟩
  case stop =>
    rintro D c pre W _ _ h _
    exact h.elim
end Go.Proofs.YtmomoeagnkjbiaaGreat
/- slices.Collect of slices.Values at ints. -/
namespace Go.Proofs.YtmomoeagnkjbiaaGreat
open Go.RowKit Go.Shelf
attribute [local go_sem] Oper.semAt_some

set_option maxHeartbeats 1000000 in
theorem vl_collect (F : Fence) (n : Nat) (hC : F.fn 140) (hA : F.fn 168) (hV1 : F.fn 142) (hro : F.round = none) (hn : 4 ≤ n) (Bs : Nat) (sv : Value) (zs : List Int) (hlen : zs.length ≤ 1000000000) (w : World) (hBs : Bs < w.heap.size)
    (hc : w.cell? ⟨Bs, 0, none⟩ = some sv) (hI : IntsV w.heap.size w sv zs) :
    CallsIn F n Tryz.prog 140 #[.func (.func 142) #[] #[.pointer (some ⟨Bs, 0, none⟩)]] w fun e W' => ∃ v, e = .returned v ∧ W'.ownsRow w.heap.size 3 1 v zs.length (zs.map (Value.int .i64)) ∧ Below w.heap.size w W' := by
  have h1 : 1 ≤ n := by omega
  refine callsIn_of_wp Tryz.func140 rfl hC ?_ hro
  simp only [Tryz.ntmps140, List.size_toArray, List.length_cons, List.length_nil, Nat.reduceAdd, Nat.reduceSub, Array.replicate_succ, Array.replicate_zero, List.push_toArray, List.append_toArray, List.nil_append, List.cons_append]
  gi_wp2_with (gi_at_call 168; refine (vl_append F (n - 1) hA hV1 hro (by omega) Bs sv zs hlen _ hBs hc hI).mono ?_; rintro e w' ⟨v, rfl, hrow, hb⟩)
  go_ret
  exact ⟨v, rfl, hrow, hb⟩
end Go.Proofs.YtmomoeagnkjbiaaGreat

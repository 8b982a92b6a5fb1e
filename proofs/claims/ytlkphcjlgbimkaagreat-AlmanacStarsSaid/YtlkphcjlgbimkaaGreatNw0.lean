/- almanac.New without pages: what it calls. -/
import Derived.Test.YtlkphcjlgbimkaaGreatProg
import Derived.Test.YtlkphcjlgbimkaaGreatLay
import Derived.Test.YtlkphcjlgbimkaaGreatRegion
import Derived.Test.YtlkphcjlgbimkaaGreatMix
import Derived.WalkKit
import Derived.WalkSpells
import Derived.WalkLawsBesides
import Derived.Lib.Hide
import Derived.BigQuiet
import Derived.Test.YtlkphcjlgbimkaaGreatPlain
import Derived.Test.YtlkphcjlgbimkaaGreatAlm4
import Derived.Test.YtlkphcjlgbimkaaGreatCln
import Derived.Test.YtlkphcjlgbimkaaGreatSta4
import Derived.Test.YtlkphcjlgbimkaaGreatShelf
namespace Go.Proofs.YtlkphcjlgbimkaaGreat
open Go.RowKit Go.Shelf

set_option maxHeartbeats 1000000 in
theorem pgs_IndexFunc_nil (a : Option Addr) (c : Nat) (f : Value) (w : World) :
    Calls Tryz.prog 112 #[.slice a 0 c, f] w fun e w' => e = .returned (.int .i64 (-1)) ∧ ∃ d, w' = bw w d := by
  refine lay_start ?_
  go_enter Tryz.func112, Tryz.ntmps112
  go_wp2_with fail
  refine wp_loop_rounds 1 ?_
  rw [rounds_succ]
  go_wp2
  go_ret
  exact ⟨rfl, lay_ex _ _⟩
set_option maxHeartbeats 1000000 in
theorem pgs_ContainsFunc_nil (a : Option Addr) (c : Nat) (f : Value) (w : World) :
    Calls Tryz.prog 53 #[.slice a 0 c, f] w fun e w' => e = .returned (.bool false) ∧ ∃ d, w' = bw w d := by
  refine lay_start ?_
  go_enter Tryz.func53, Tryz.ntmps53
  go_wp2_with (go_at_call 112; refine (pgs_IndexFunc_nil _ _ _ _).mono ?_; rintro e w' ⟨rfl, d, rfl⟩)
  go_ret
  exact ⟨rfl, lay_ex _ _⟩
set_option maxHeartbeats 1000000 in
theorem pgs_Clone_nil (w : World) :
    Calls Tryz.prog 42 #[.slice none 0 0] w fun e w' => e = .returned (.slice none 0 0) ∧ ∃ d, w' = bw w d := by
  refine lay_start ?_
  have qT : ∀ (w : World) (a : Option Addr) (n c : Nat), (binOp .eql 22 (.slice a n c) (.slice none 0 0)).run Tryz.prog w = .ok (.bool a.isNone) w := fun w a n c => Lib.run_eql_slice_nil w _ _ a n c 0 0 pgOk.und
  go_enter Tryz.func42, Tryz.ntmps42
  go_wp2_with fail
  go_ret
  exact ⟨rfl, lay_ex _ _⟩
set_option maxHeartbeats 1000000 in
theorem alm_copied_nil (w : World) :
    Calls Tryz.prog 98 #[.slice none 0 0] w fun e w' => e = .returned (.slice none 0 0) ∧ ∃ d, w' = bw w d := by
  refine lay_start ?_
  go_enter Tryz.func98, Tryz.ntmps98
  go_wp2_with (go_at_call 42; refine (pgs_Clone_nil _).mono ?_; rintro e w' ⟨rfl, d, rfl⟩)
  refine wp_loop_rounds 1 ?_
  rw [rounds_succ]
  go_wp2
  go_ret
  exact ⟨rfl, lay_ex _ _⟩
set_option maxHeartbeats 1000000 in
theorem alm_tracked_nil (bk : Nat) (vd vs : Value) (w : World) (hB : Bk w bk vd (.slice none 0 0) vs) :
    Calls Tryz.prog 64 #[.pointer (some ⟨bk, 0, none⟩)] w fun e w' => e = .returned (.slice none 0 0) ∧ ∃ d, w' = bw w d := by
  obtain ⟨k0, k1, k2, k3⟩ := hB
  refine lay_start ?_
  go_enter Tryz.func64, Tryz.ntmps64
  go_wp2_with fail
  refine wp_loop_rounds 1 ?_
  rw [rounds_succ]
  go_wp2_with (first | (go_at_call 116; refine (Tryz.slices_Sort_string_none _ _ _).mono ?_; rintro e w' ⟨rfl, rfl⟩) | (go_at_call 117; refine (Tryz.slices_Compact_string_empty _ _ _).mono ?_; rintro e w' ⟨rfl, rfl⟩))
  go_ret
  exact ⟨rfl, noExt _, (bw_noExt _).symm⟩
/-- Is the name that of Aries? -/
def isA (s : ByteArray) : Bool := s.toList == [65, 114, 105, 101, 115]
set_option maxHeartbeats 1000000 in
theorem alm_New2_nil (x : StarV) (b : Nat) (w : World) (hb : b < w.heap.size) (hc : w.cell? ⟨b, 0, none⟩ = some (.slice none 0 0)) :
    Calls Tryz.prog 109 #[.agg #[.string x.s, .int .i64 x.sha, .int .i64 x.dec, .int .i64 x.mag], .pointer (some ⟨b, 0, none⟩)] w fun e w' => e = .returned (.bool (isA x.s)) ∧ ∃ d, w' = bw w d := by
  obtain ⟨xs, x1, x2, x3⟩ := x
  dsimp only
  have ho : isA xs = (xs.toList == [65, 114, 105, 101, 115]) := rfl
  cases h : isA xs
  · rw [h] at ho
    have t1 := ho.symm
    clear ho h
    refine lay_start ?_
    go_enter Tryz.func109, Tryz.ntmps109
    go_wp2_with (go_at_call 63; refine (Tryz.slices_Contains_string_empty _ _ _ _).mono ?_; rintro e w' ⟨rfl, rfl⟩)
    go_ret
    exact ⟨rfl, lay_ex _ _⟩
  · rw [h] at ho
    have t1 := ho.symm
    clear ho h
    refine lay_start ?_
    go_enter Tryz.func109, Tryz.ntmps109
    go_wp2_with (go_at_call 63; refine (Tryz.slices_Contains_string_empty _ _ _ _).mono ?_; rintro e w' ⟨rfl, rfl⟩)
    go_ret
    exact ⟨rfl, lay_ex _ _⟩
set_option maxHeartbeats 1000000 in
theorem st_ContainsFunc (g : FuncId) (lb : List Value) (p : StarV → Bool) (v : Value) (l : List StarV) (w : World) (hv : SlG stR w v l)
    (eI : ∀ args w, (callFunc g args).run Tryz.prog w = .ok (.enter g args) w)
    (hf : ∀ x ∈ l, ∀ d, Calls Tryz.prog g (.agg (stR.enc x).toArray :: lb).toArray (bw w d) fun e w' => e = .returned (.bool (p x)) ∧ ∃ d, w' = bw w d) :
    Calls Tryz.prog 57 #[v, .func (.func g) #[] lb.toArray] w fun e w' => e = .returned (.bool (l.any p)) ∧ ∃ d, w' = bw w d := by
  have H := Lib.hid (st_IndexFunc g lb p v l w hv eI hf)
  have HS := Lib.hid (idxR_any p l 0)
  generalize idxR p l 0 = x at *
  generalize l.any p = y at *
  clear hf eI hv
  refine lay_start ?_
  go_enter Tryz.func57, Tryz.ntmps57
  go_wp2_with (go_at_call 61; refine H.out.mono ?_; rintro e w' ⟨rfl, d, rfl⟩)
  go_ret
  exact ⟨ret_bool HS.out, _, rfl⟩
end Go.Proofs.YtlkphcjlgbimkaaGreat

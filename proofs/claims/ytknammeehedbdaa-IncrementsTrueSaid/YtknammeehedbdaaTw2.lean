/- IncrementsTrue walked. -/
import Derived.Test.YtknammeehedbdaaProg
import Derived.Test.YtknammeehedbdaaLay
import Derived.Test.YtknammeehedbdaaRegion
import Derived.Test.YtknammeehedbdaaMix
import Derived.WalkKit
import Derived.WalkSpells
import Derived.WalkLawsBesides
import Derived.Lib.Hide
import Derived.BigQuiet
import Derived.Deep.RegionWith
import Derived.Test.YtknammeehedbdaaPlain
import Derived.Test.YtknammeehedbdaaAngle
import Derived.Test.YtknammeehedbdaaInc1
import Derived.Test.YtknammeehedbdaaInc3
import Derived.Test.YtknammeehedbdaaMixC
import Derived.Test.YtknammeehedbdaaSwap
import Derived.Test.YtknammeehedbdaaTru2
import Derived.Test.YtknammeehedbdaaRf7
import Derived.Test.YtknammeehedbdaaTrk16
import Derived.Test.YtknammeehedbdaaLw1
import Derived.Test.YtknammeehedbdaaTw1
import Derived.Test.YtknammeehedbdaaTru3
namespace Go.Proofs.Ytknammeehedbdaa
open Go.RowKit

theorem i64_wf {n : Int} (h1 : -9223372036854775808 ≤ n) (h2 : n ≤ 9223372036854775807) : (Lit.int .i64 n).wf = true := by
  simp [Lit.wf, IntKind.min, IntKind.max, IntKind.bits, IntKind.signed]; omega
theorem apart_swap {a b : Option Nat} (h : a = none ∨ a ≠ b) : b = none ∨ b ≠ a := by
  by_cases e : b = none
  · exact .inl e
  · refine .inr fun e2 => ?_
    rcases h with h | h
    · rw [h] at e2; exact e e2
    · exact h e2.symm
def rowX (l : Nat → Int) (k : Nat) : List Value := (List.range k).map fun i => .int .i64 (l i)
theorem rowX_succ (l : Nat → Int) (k : Nat) : rowX l (k + 1) = rowX l k ++ [.int .i64 (l k)] := by simp [rowX, List.range_succ]
theorem rowX_get (l : Nat → Int) (k i : Nat) (h : i < k) : (rowX l k)[i]? = some (.int .i64 (l i)) := by simp [rowX, h]
theorem lay_app (w : World) (A B : List (Obj ⊕ Ext)) : lay w (A ++ B) = lay (lay w B) A := by
  induction A with
  | nil => rfl
  | cons x A ih =>
    cases x with
    | inl o => exact congrArg (fun W => World.alloc W o) ih
    | inr d => exact congrArg (fun W => bw W d) ih
theorem row_on {w : World} {g : Nat} {f : Nat → Int} {A B : List (Obj ⊕ Ext)} (h : Row (lay w B) g f) : Row (lay w (A ++ B)) g f := by rw [lay_app]; exact h.lay A
theorem law14_inside_t (ms : Int) (w : World) (h : 0 ≤ ms ∧ ms ≤ 86400000) :
    Calls Try.prog 26 #[.int .i64 ms] w fun e w' => e = .returned (.bool true) ∧ w' = w :=
  (law14_inside ms w).mono fun e w' ⟨h1, h2⟩ => ⟨by rw [h1, show insideB14 ms = true by simp [insideB14, h]], h2⟩

set_option maxHeartbeats 4000000 in
set_option maxRecDepth 100000 in
theorem true_main (start dec : Int) (vs : Value) (ls : List Int) {w : World} (hs : Lst16 w vs ls) (bend ms away : Int)
    (h24 : 24 ≤ ls.length) (hms : 0 ≤ ms ∧ ms ≤ 86400000) (s0 : 0 ≤ start) (s1 : start < 21600000) (d0 : -2400000 ≤ dec) (hd1 : dec ≤ 2400000) (b0 : 0 ≤ bend) (b1 : bend ≤ 1000) (a0 : -128 ≤ away) (a1 : away ≤ 127) :
    Calls Try.prog 8 #[.int .i64 start, .int .i64 dec, vs, .int .u16 bend, .int .i64 ms, .int .i8 away] w fun e w' => e = .returned (.bool true) ∧ ∃ d, w' = bw w d := by
  obtain ⟨i0, hi, hz0, hz1, hz2⟩ := info_parts info_int4
  obtain ⟨a, cap, rfl, hl1, hwf, hc⟩ := hs
  obtain ⟨b, o, rfl, hbs, hcc⟩ := hc (by intro e; rw [e] at h24; simp at h24)
  replace hcc : ∀ i, i < ls.length → w.cell? ⟨b, o + i, none⟩ = some (.int .i16 (nth ls i)) := hcc
  have hsb : ∀ k, -32768 ≤ nth ls k ∧ nth ls k ≤ 32767 := fun k => by
    by_cases hk : k < ls.length
    · have : (Lit.int .i16 (nth ls k)).wf = true := hwf k hk
      simpa [Lit.wf, IntKind.min, IntKind.max, IntKind.bits, IntKind.signed] using this
    · have : nth ls k = 0 := by unfold nth; simp [List.getD, List.getElem?_eq_none (Nat.le_of_not_lt hk)]
      rw [this]; decide
  clear hc hwf
  obtain ⟨m, hm⟩ : ∃ m, ls.length = m := ⟨_, rfl⟩
  rw [hm] at h24 hl1 hcc ⊢
  have HI := Lib.hid (fun W => law14_inside_t ms W hms)
  have t1 : decide ((m : Int) < 24) = false := decide_eq_false (by omega)
  have t2 : decide (start < 0) = false := decide_eq_false (by omega)
  have t3 : decide (21600000 ≤ start) = false := decide_eq_false (by omega)
  have t4 : decide (dec < -2400000) = false := decide_eq_false (by omega)
  have t5 : decide (2400000 < dec) = false := decide_eq_false (by omega)
  have t6 : decide (1000 < bend) = false := decide_eq_false (by omega)
  have t7 : (24 : Int) ≤ (cap : Int) := by omega
  refine lay_start ?_
  go_enter Try.func8, Try.ntmps8
  go_wp2_with (first | (go_at_call 11; refine (law14_awake _).mono ?_; rintro e w' ⟨rfl, d, rfl⟩) | (go_at_call 26; refine (HI.out _).mono ?_; rintro e w' ⟨rfl, rfl⟩))
  go_loopw [13, 14, 67] (fun v13 v14 vi wr => ∃ (j g1 c1 g2 c2 : Nat) (dd : Ext), j ≤ 24 ∧ v13 = .slice (some ⟨g1, 0, none⟩) (j + 1) c1 ∧ v14 = .slice (some ⟨g2, 0, none⟩) (j + 1) c2 ∧ vi = .int .i64 (j : Int) ∧ wr = lay w [.inr dd, .inl (.cells #[.int .i8 away] 51 (0, 0)), .inl (.cells #[.int .u16 bend] 50 (0, 0))] ∧
      (lay w [.inr dd, .inl (.cells #[.int .i8 away] 51 (0, 0)), .inl (.cells #[.int .u16 bend] 50 (0, 0))]).ownsRow (lay w [.inl (.cells #[.int .i8 away] 51 (0, 0)), .inl (.cells #[.int .u16 bend] 50 (0, 0))]).heap.size 3 1 (.slice (some ⟨g1, 0, none⟩) (j + 1) c1) (j + 1) (rowX (ghX start (nth ls)) (j + 1)) ∧
      (lay w [.inr dd, .inl (.cells #[.int .i8 away] 51 (0, 0)), .inl (.cells #[.int .u16 bend] 50 (0, 0))]).ownsRow (lay w [.inl (.cells #[.int .i8 away] 51 (0, 0)), .inl (.cells #[.int .u16 bend] 50 (0, 0))]).heap.size 3 1 (.slice (some ⟨g2, 0, none⟩) (j + 1) c2) (j + 1) (rowX (deX dec (nth ls)) (j + 1)) ∧ g1 ≠ g2) (fun _ _ vi _ => 24 - (intOf vi).toNat)
  case atStart =>
    obtain ⟨dd, hd⟩ := lay_ex (lay w [.inl (.cells #[.int .i8 away] 51 (0, 0)), .inl (.cells #[.int .u16 bend] 50 (0, 0))]) [.inl (.cells #[.int .i64 dec] 3 (0, 0)), .inl (.cells #[.int .i64 start] 3 (0, 0)), .inr d]
    have r1 : (lay w [.inl (.cells #[.int .i64 start] 3 (0, 0)), .inr d, .inl (.cells #[.int .i8 away] 51 (0, 0)), .inl (.cells #[.int .u16 bend] 50 (0, 0))]).ownsRow (lay w [.inl (.cells #[.int .i8 away] 51 (0, 0)), .inl (.cells #[.int .u16 bend] 50 (0, 0))]).heap.size 3 1 (.slice (some ⟨posn w [d.n, 1, 1], 0, none⟩) 1 1) 1 [.int .i64 start] := by
      have := World.ownsRow_lit (base := (lay w [.inl (.cells #[.int .i8 away] 51 (0, 0)), .inl (.cells #[.int .u16 bend] 50 (0, 0))]).heap.size) (e := 3) (size := 1) (lay w [.inr d, .inl (.cells #[.int .i8 away] 51 (0, 0)), .inl (.cells #[.int .u16 bend] 50 (0, 0))]) #[.int .i64 start] 1 (bw_le _ _) (by decide) rfl
      rw [lay_size w [.inr d, .inl (.cells #[.int .i8 away] 51 (0, 0)), .inl (.cells #[.int .u16 bend] 50 (0, 0))]] at this
      exact this
    have r2 : (lay w [.inl (.cells #[.int .i64 dec] 3 (0, 0)), .inl (.cells #[.int .i64 start] 3 (0, 0)), .inr d, .inl (.cells #[.int .i8 away] 51 (0, 0)), .inl (.cells #[.int .u16 bend] 50 (0, 0))]).ownsRow (lay w [.inl (.cells #[.int .i8 away] 51 (0, 0)), .inl (.cells #[.int .u16 bend] 50 (0, 0))]).heap.size 3 1 (.slice (some ⟨posn w [1, d.n, 1, 1], 0, none⟩) 1 1) 1 [.int .i64 dec] := by
      have := World.ownsRow_lit (base := (lay w [.inl (.cells #[.int .i8 away] 51 (0, 0)), .inl (.cells #[.int .u16 bend] 50 (0, 0))]).heap.size) (e := 3) (size := 1) (lay w [.inl (.cells #[.int .i64 start] 3 (0, 0)), .inr d, .inl (.cells #[.int .i8 away] 51 (0, 0)), .inl (.cells #[.int .u16 bend] 50 (0, 0))]) #[.int .i64 dec] 1 (lay_extends (lay w [.inl (.cells #[.int .i8 away] 51 (0, 0)), .inl (.cells #[.int .u16 bend] 50 (0, 0))]) [.inl (.cells #[.int .i64 start] 3 (0, 0)), .inr d]).size (by decide) rfl
      rw [lay_size w [.inl (.cells #[.int .i64 start] 3 (0, 0)), .inr d, .inl (.cells #[.int .i8 away] 51 (0, 0)), .inl (.cells #[.int .u16 bend] 50 (0, 0))]] at this
      exact this
    have r1' := row_lay r1 [.inl (.cells #[.int .i64 dec] 3 (0, 0))]
    refine ⟨0, posn w [d.n, 1, 1], 1, posn w [1, d.n, 1, 1], 1, dd, by decide, rfl, rfl, rfl, hd, ?_, ?_, ?_⟩
    · rw [show lay w [.inr dd, .inl (.cells #[.int .i8 away] 51 (0, 0)), .inl (.cells #[.int .u16 bend] 50 (0, 0))] = _ from hd.symm]; exact r1'
    · rw [show lay w [.inr dd, .inl (.cells #[.int .i8 away] 51 (0, 0)), .inl (.cells #[.int .u16 bend] 50 (0, 0))] = _ from hd.symm]; exact r2
    · simp only [posn, List.sum_cons, List.sum_nil]; omega
  case round =>
    obtain ⟨j, g1, c1, g2, c2, dd, hj, rfl, rfl, rfl, rfl, hown1, hown2, hne⟩ := hrel
    by_cases hlt : j < 24
    · have k0 := hcc j (by omega)
      have hrow1 := hown1.cellAt j (by omega)
      rw [rowX_get _ _ _ (by omega)] at hrow1
      have hrow2 := hown2.cellAt j (by omega)
      rw [rowX_get _ _ _ (by omega)] at hrow2
      have hg2 := (hown2.lt g2 rfl).2
      have x0 : (0 : Int) ≤ (j : Int) := by omega
      have x1 : (j : Int) < 24 := by omega
      have x2 : (j : Int) < ((j + 1 : Nat) : Int) := by omega
      have x6 : (j : Int) < (j : Int) + 1 := by omega
      have sb := hsb j
      have gb := ghX_bd s0 s1 hsb j
      have db := deX_bd d0 hd1 hsb j
      have w1 : IntKind.i64.wrap (nth ls j) = nth ls j := IntWalk.i64_in _ (by omega)
      have w2 : IntKind.i64.wrap (ghX start (nth ls) j + 840000) = ghX start (nth ls) j + 840000 := IntWalk.i64_in _ (by omega)
      have w3 : IntKind.i64.wrap (ghX start (nth ls) j + 840000 + nth ls j) = ghX start (nth ls) j + 840000 + nth ls j := IntWalk.i64_in _ (by omega)
      have w4 : IntKind.i64.wrap (ghX start (nth ls) j + 840000 + nth ls j + 32768) = ghX start (nth ls) (j + 1) := IntWalk.i64_in _ (by omega)
      have w5 : IntKind.i64.wrap (deX dec (nth ls) j + nth ls j) = deX dec (nth ls) (j + 1) := IntWalk.i64_in _ (by omega)
      go_wp2_with (first | (at_builtin; refine wpList_push3 rfl _ _ 32 rfl 3 i0 (.int .i64 0) 1 8 Try.underlying32 hi hz0 hz1 hz2 rfl (by decide) (lay w [.inl (.cells #[.int .i8 away] 51 (0, 0)), .inl (.cells #[.int .u16 bend] 50 (0, 0))]) (lay w [.inl (.cells #[.int .i64 (ghX start (nth ls) (j + 1))] 3 (0, 0)), .inr dd, .inl (.cells #[.int .i8 away] 51 (0, 0)), .inl (.cells #[.int .u16 bend] 50 (0, 0))]) #[.int .i64 (ghX start (nth ls) (j + 1))] 3 (posn w [dd.n, 1, 1]) _ _ _ (lay_extends (lay w [.inl (.cells #[.int .i8 away] 51 (0, 0)), .inl (.cells #[.int .u16 bend] 50 (0, 0))]) [.inl (.cells #[.int .i64 (ghX start (nth ls) (j + 1))] 3 (0, 0)), .inr dd]) (row_lay hown1 [.inl (.cells #[.int .i64 (ghX start (nth ls) (j + 1))] 3 (0, 0))]) (lay_get w [.inl (.cells #[.int .i64 (ghX start (nth ls) (j + 1))] 3 (0, 0)), .inr dd, .inl (.cells #[.int .i8 away] 51 (0, 0)), .inl (.cells #[.int .u16 bend] 50 (0, 0))] 0 _ rfl) rfl rfl rfl (by simp [Value.oneCell']) (by unfold maxLen; omega) (by omega) ?_; intro g1' c1' d' hown1' hgrow hat; have hown2' := (row_lay hown2 [.inl (.cells #[.int .i64 (ghX start (nth ls) (j + 1))] 3 (0, 0))]).kept hgrow (.inr (by simp [Value.ownBlock]; omega)); have hrow2' := hown2'.cellAt j (by omega); rw [rowX_get _ _ _ (by omega)] at hrow2'; rw [lay_bw] at hrow2') | (at_builtin; refine wpList_push3 rfl _ _ 32 rfl 3 i0 (.int .i64 0) 1 8 Try.underlying32 hi hz0 hz1 hz2 rfl (by decide) (lay w [.inl (.cells #[.int .i8 away] 51 (0, 0)), .inl (.cells #[.int .u16 bend] 50 (0, 0))]) (lay w [.inl (.cells #[.int .i64 (deX dec (nth ls) (j + 1))] 3 (0, 0)), .inr d', .inl (.cells #[.int .i8 away] 51 (0, 0)), .inl (.cells #[.int .u16 bend] 50 (0, 0))]) #[.int .i64 (deX dec (nth ls) (j + 1))] 3 (posn w [d'.n, 1, 1]) _ _ _ (lay_extends (lay w [.inl (.cells #[.int .i8 away] 51 (0, 0)), .inl (.cells #[.int .u16 bend] 50 (0, 0))]) [.inl (.cells #[.int .i64 (deX dec (nth ls) (j + 1))] 3 (0, 0)), .inr d']) (row_lay hown2' [.inl (.cells #[.int .i64 (deX dec (nth ls) (j + 1))] 3 (0, 0))]) (lay_get w [.inl (.cells #[.int .i64 (deX dec (nth ls) (j + 1))] 3 (0, 0)), .inr d', .inl (.cells #[.int .i8 away] 51 (0, 0)), .inl (.cells #[.int .u16 bend] 50 (0, 0))] 0 _ rfl) rfl rfl rfl (by simp [Value.oneCell']) (by unfold maxLen; omega) (by omega) ?_; intro g2' c2' d2 hown2'' hgrow2 hat2))
      have hne' : g1' ≠ g2 := by
        rcases hat with e | e
        · simp [Value.ownBlock] at e; omega
        · intro e2; rw [← e2, e] at hg2; exact absurd (Nat.lt_of_lt_of_le hg2 (lay_extends (lay w [.inr dd, .inl (.cells #[.int .i8 away] 51 (0, 0)), .inl (.cells #[.int .u16 bend] 50 (0, 0))]) [.inl (.cells #[.int .i64 (ghX start (nth ls) (j + 1))] 3 (0, 0))]).size) (Nat.lt_irrefl _)
      have hg1 := (hown1'.lt g1' rfl).2
      have hown1'' := (row_lay hown1' [.inl (.cells #[.int .i64 (deX dec (nth ls) (j + 1))] 3 (0, 0))]).kept hgrow2 (.inr (by simp [Value.ownBlock]; omega))
      have hne'' : g1' ≠ g2' := by
        rcases hat2 with e | e
        · simp [Value.ownBlock] at e; omega
        · intro e2; rw [e2, e] at hg1; exact absurd (Nat.lt_of_lt_of_le hg1 (lay_extends (lay w [.inr d', .inl (.cells #[.int .i8 away] 51 (0, 0)), .inl (.cells #[.int .u16 bend] 50 (0, 0))]) [.inl (.cells #[.int .i64 (deX dec (nth ls) (j + 1))] 3 (0, 0))]).size) (Nat.lt_irrefl _)
      go_roundw
      case rel => exact ⟨j + 1, g1', c1', g2', c2', d2, hlt, rfl, rfl, by go_num, rfl, by rw [rowX_succ]; exact hown1'', by rw [rowX_succ]; exact hown2'', hne''⟩
      case measure => simp [intOf]; omega
    · obtain rfl : j = 24 := by omega
      have wb : IntKind.i64.wrap bend = bend := IntWalk.i64_in _ (by omega)
      go_wp2_with fail
      have hR1 : Row (lay w [.inr dd, .inl (.cells #[.int .i8 away] 51 (0, 0)), .inl (.cells #[.int .u16 bend] 50 (0, 0))]) g1 (ghX start (nth ls)) := ⟨(hown1.lt g1 rfl).2, fun k hk => (hown1.cellAt k (by omega)).trans (rowX_get _ _ _ hk), fun i hi' => by have := ghX_bd s0 s1 hsb i; omega⟩
      have hR2 : Row (lay w [.inr dd, .inl (.cells #[.int .i8 away] 51 (0, 0)), .inl (.cells #[.int .u16 bend] 50 (0, 0))]) g2 (deX dec (nth ls)) := ⟨(hown2.lt g2 rfl).2, fun k hk => (hown2.cellAt k (by omega)).trans (rowX_get _ _ _ hk), fun i hi' => by have := deX_bd d0 hd1 hsb i; omega⟩
      have HR1 := Lib.hid hR1
      have HR2 := Lib.hid hR2
      clear hown1 hown2 hR1 hR2 hj hlt
      go_loopw [98] (fun vi wr => ∃ (k : Nat) (vG vD : Value) (e : Ext), k ≤ 25 ∧ vi = .int .i64 (k : Int) ∧ wr = lay w [.inr e, .inl (.cells #[.string ⟨#[66, 111, 100, 121]⟩, vG, vD, .int .i64 0, .int .i64 0, .int .i64 bend] 43 (0, 0)), .inr dd, .inl (.cells #[.int .i8 away] 51 (0, 0)), .inl (.cells #[.int .u16 bend] 50 (0, 0))] ∧
        (lay w [.inr e, .inl (.cells #[.string ⟨#[66, 111, 100, 121]⟩, vG, vD, .int .i64 0, .int .i64 0, .int .i64 bend] 43 (0, 0)), .inr dd, .inl (.cells #[.int .i8 away] 51 (0, 0)), .inl (.cells #[.int .u16 bend] 50 (0, 0))]).ownsRow (posn w [1, dd.n, 1, 1]) 3 1 vG k (rowX (ghD start (nth ls)) k) ∧
        (lay w [.inr e, .inl (.cells #[.string ⟨#[66, 111, 100, 121]⟩, vG, vD, .int .i64 0, .int .i64 0, .int .i64 bend] 43 (0, 0)), .inr dd, .inl (.cells #[.int .i8 away] 51 (0, 0)), .inl (.cells #[.int .u16 bend] 50 (0, 0))]).ownsRow (posn w [1, dd.n, 1, 1]) 3 1 vD k (rowX (deD dec (nth ls)) k) ∧ (vG.ownBlock = none ∨ vG.ownBlock ≠ vD.ownBlock)) (fun vi _ => 25 - (intOf vi).toNat)
      case atStart => exact ⟨0, .slice none 0 0, .slice none 0 0, noExt _, by decide, rfl, (bw_noExt _).symm, World.ownsRow_nil _ _ _ _, World.ownsRow_nil _ _ _ _, .inl rfl⟩
      case round =>
        obtain ⟨k, vG, vD, de, hk, rfl, rfl, hG, hD, hne2⟩ := hrel
        by_cases hlt2 : k < 25
        · have eI : ∀ args w, (callFunc 29 args).run Try.prog w = .ok (.enter 29 args) w := enters_of Try.func29 (by kernel_rfl) rfl
          have hc1 : ∀ d : Ext, (lay w [.inr d, .inr de, .inl (.cells #[.string ⟨#[66, 111, 100, 121]⟩, vG, vD, .int .i64 0, .int .i64 0, .int .i64 bend] 43 (0, 0)), .inr dd, .inl (.cells #[.int .i8 away] 51 (0, 0)), .inl (.cells #[.int .u16 bend] 50 (0, 0))]).cell? ⟨g1, k, none⟩ = some (.int .i64 (ghX start (nth ls) k)) := fun d => (HR1.out.lay [.inr d, .inr de, .inl (.cells #[.string ⟨#[66, 111, 100, 121]⟩, vG, vD, .int .i64 0, .int .i64 0, .int .i64 bend] 43 (0, 0))]).cell k hlt2
          have x0 : (0 : Int) ≤ (k : Int) := by omega
          have x1 : (k : Int) < 25 := by omega
          have hrm : (rnd (ghX start (nth ls) k % 21600000)).tmod 216000 = ghD start (nth ls) k := Int.tmod_eq_emod_of_nonneg (by unfold rnd; omega)
          go_wp2_with fail
          refine region_mixT 11 [0, 0, 0, 0, 0, 0, 0, 0, 0, 0, 1] (by kernel_rfl) (by kernel_rfl) (by kernel_rfl) (by kernel_rfl) (by simp) (by kernel_rfl) ?_
          simp only [List.take_succ_cons, List.take_zero, List.drop_succ_cons, List.drop_zero]
          repeat (first | (refine wpM_quiet (fun K hK => ?_); go_simp; first | (refine hK _ ?_; clear hK K) | (apply Exists.intro; refine ⟨fun _ => ?_, hK _ ?_⟩; (first | (go_at_call 31; exact bqs (ref05_Wrap _ _) ⟨noExt _, (bw_noExt _).symm⟩) | (go_at_call 29; exact bqs (tru_round _ _ (by omega) (by omega)) ⟨noExt _, (bw_noExt _).symm⟩)); clear hK K)) | (refine wpM_special (fun K hK d => ?_); go_simp; refine hK _ _ (by first | exact lay_in w [_] _ | exact lay_in w [_, _] _ | exact lay_in w [_, _, _] _ | exact lay_in w [_, _, _, _] _ | exact lay_in w [_, _, _, _, _] _ | exact lay_in w [_, _, _, _, _, _] _) ?_; clear hK K))
          refine wpM_nil ?_
          intro d1
          rw [lay_bw]
          refine wpList_push3 rfl _ _ 32 rfl 3 i0 (.int .i64 0) 1 8 Try.underlying32 hi hz0 hz1 hz2 rfl (by decide) (lay w [.inl (.cells #[.string ⟨#[66, 111, 100, 121]⟩, vG, vD, .int .i64 0, .int .i64 0, .int .i64 bend] 43 (0, 0)), .inr dd, .inl (.cells #[.int .i8 away] 51 (0, 0)), .inl (.cells #[.int .u16 bend] 50 (0, 0))]) (lay w [.inr d1, .inl (.cells #[.int .i64 (ghD start (nth ls) k)] 3 (0, 0)), .inr d, .inr de, .inl (.cells #[.string ⟨#[66, 111, 100, 121]⟩, vG, vD, .int .i64 0, .int .i64 0, .int .i64 bend] 43 (0, 0)), .inr dd, .inl (.cells #[.int .i8 away] 51 (0, 0)), .inl (.cells #[.int .u16 bend] 50 (0, 0))]) #[.int .i64 (ghD start (nth ls) k)] 3 (posn w [d.n, de.n, 1, dd.n, 1, 1]) vG k (rowX (ghD start (nth ls)) k) (lay_extends (lay w [.inl (.cells #[.string ⟨#[66, 111, 100, 121]⟩, vG, vD, .int .i64 0, .int .i64 0, .int .i64 bend] 43 (0, 0)), .inr dd, .inl (.cells #[.int .i8 away] 51 (0, 0)), .inl (.cells #[.int .u16 bend] 50 (0, 0))]) [.inr d1, .inl (.cells #[.int .i64 (ghD start (nth ls) k)] 3 (0, 0)), .inr d, .inr de]) (by rw [lay_size w [.inl (.cells #[.string ⟨#[66, 111, 100, 121]⟩, vG, vD, .int .i64 0, .int .i64 0, .int .i64 bend] 43 (0, 0)), .inr dd, .inl (.cells #[.int .i8 away] 51 (0, 0)), .inl (.cells #[.int .u16 bend] 50 (0, 0))]]; exact row_lay hG [.inr d1, .inl (.cells #[.int .i64 (ghD start (nth ls) k)] 3 (0, 0)), .inr d]) (lay_get w [.inr d1, .inl (.cells #[.int .i64 (ghD start (nth ls) k)] 3 (0, 0)), .inr d, .inr de, .inl (.cells #[.string ⟨#[66, 111, 100, 121]⟩, vG, vD, .int .i64 0, .int .i64 0, .int .i64 bend] 43 (0, 0)), .inr dd, .inl (.cells #[.int .i8 away] 51 (0, 0)), .inl (.cells #[.int .u16 bend] 50 (0, 0))] 1 _ rfl) rfl rfl rfl (by simp [Value.oneCell']) (by unfold maxLen; omega) (by omega) ?_
          intro gG cG d3 hG' hgrow hat
          have hD' := (row_lay hD [.inr d1, .inl (.cells #[.int .i64 (ghD start (nth ls) k)] 3 (0, 0)), .inr d]).kept hgrow (apart_swap hne2)
          rw [lay_size w [.inl (.cells #[.string ⟨#[66, 111, 100, 121]⟩, vG, vD, .int .i64 0, .int .i64 0, .int .i64 bend] 43 (0, 0)), .inr dd, .inl (.cells #[.int .i8 away] 51 (0, 0)), .inl (.cells #[.int .u16 bend] 50 (0, 0))]] at hG'
          have hbase : (lay w [.inr dd, .inl (.cells #[.int .i8 away] 51 (0, 0)), .inl (.cells #[.int .u16 bend] 50 (0, 0))]).heap.size < posn w [1, dd.n, 1, 1] := by rw [lay_size]; simp only [posn, shp, List.sum_cons, List.sum_nil, Ext.n]; omega
          have hG2 := row_swap (o' := .cells #[.string ⟨#[66, 111, 100, 121]⟩, .slice (some ⟨gG, 0, none⟩) (k + 1) cG, vD, .int .i64 0, .int .i64 0, .int .i64 bend] 43 (0, 0)) hbase hG'
          have hD2 := row_swap (o' := .cells #[.string ⟨#[66, 111, 100, 121]⟩, .slice (some ⟨gG, 0, none⟩) (k + 1) cG, vD, .int .i64 0, .int .i64 0, .int .i64 bend] 43 (0, 0)) hbase hD'
          have hap : vD.ownBlock = none ∨ vD.ownBlock ≠ some gG := by
            by_cases e : vD.ownBlock = none
            · exact .inl e
            · refine .inr fun e2 => ?_
              rcases hat with h | h
              · rcases hne2 with h' | h'
                · rw [h'] at h; cases h
                · exact h' (h.trans e2.symm)
              · have := (hD.lt gG e2).2
                rw [h] at this
                exact absurd (Nat.lt_of_lt_of_le this (lay_extends (lay w [.inr de, .inl (.cells #[.string ⟨#[66, 111, 100, 121]⟩, vG, vD, .int .i64 0, .int .i64 0, .int .i64 bend] 43 (0, 0)), .inr dd, .inl (.cells #[.int .i8 away] 51 (0, 0)), .inl (.cells #[.int .u16 bend] 50 (0, 0))]) [.inr d1, .inl (.cells #[.int .i64 (ghD start (nth ls) k)] 3 (0, 0)), .inr d]).size) (Nat.lt_irrefl _)
          clear hG' hD' hG hD hgrow hat hne2 hc1 hrm
          have hc2 : ∀ d : Ext, (lay w [.inr d, .inr d3, .inl (.cells #[.string ⟨#[66, 111, 100, 121]⟩, .slice (some ⟨gG, 0, none⟩) (k + 1) cG, vD, .int .i64 0, .int .i64 0, .int .i64 bend] 43 (0, 0)), .inr dd, .inl (.cells #[.int .i8 away] 51 (0, 0)), .inl (.cells #[.int .u16 bend] 50 (0, 0))]).cell? ⟨g2, k, none⟩ = some (.int .i64 (deX dec (nth ls) k)) := fun d => (HR2.out.lay [.inr d, .inr d3, .inl (.cells #[.string ⟨#[66, 111, 100, 121]⟩, .slice (some ⟨gG, 0, none⟩) (k + 1) cG, vD, .int .i64 0, .int .i64 0, .int .i64 bend] 43 (0, 0))]).cell k hlt2
          have dbk := deX_bd d0 hd1 hsb k
          go_wp2_with fail
          refine region_mixT 9 [0, 0, 0, 0, 0, 0, 0, 0, 1] (by kernel_rfl) (by kernel_rfl) (by kernel_rfl) (by kernel_rfl) (by simp) (by kernel_rfl) ?_
          simp only [List.take_succ_cons, List.take_zero, List.drop_succ_cons, List.drop_zero]
          repeat (first | (refine wpM_quiet (fun K hK => ?_); go_simp; first | (refine hK _ ?_; clear hK K) | (apply Exists.intro; refine ⟨fun _ => ?_, hK _ ?_⟩; (first | (go_at_call 29; exact bqs (tru_round _ _ (by omega) (by omega)) ⟨noExt _, (bw_noExt _).symm⟩)); clear hK K)) | (refine wpM_special (fun K hK d => ?_); go_simp; refine hK _ _ (by first | exact lay_in w [_] _ | exact lay_in w [_, _] _ | exact lay_in w [_, _, _] _ | exact lay_in w [_, _, _, _] _ | exact lay_in w [_, _, _, _, _] _ | exact lay_in w [_, _, _, _, _, _] _) ?_; clear hK K))
          refine wpM_nil ?_
          intro d1
          rw [lay_bw]
          refine wpList_push3 rfl _ _ 32 rfl 3 i0 (.int .i64 0) 1 8 Try.underlying32 hi hz0 hz1 hz2 rfl (by decide) (lay w [.inl (.cells #[.string ⟨#[66, 111, 100, 121]⟩, .slice (some ⟨gG, 0, none⟩) (k + 1) cG, vD, .int .i64 0, .int .i64 0, .int .i64 bend] 43 (0, 0)), .inr dd, .inl (.cells #[.int .i8 away] 51 (0, 0)), .inl (.cells #[.int .u16 bend] 50 (0, 0))]) (lay w [.inr d1, .inl (.cells #[.int .i64 (deD dec (nth ls) k)] 3 (0, 0)), .inr d, .inr d3, .inl (.cells #[.string ⟨#[66, 111, 100, 121]⟩, .slice (some ⟨gG, 0, none⟩) (k + 1) cG, vD, .int .i64 0, .int .i64 0, .int .i64 bend] 43 (0, 0)), .inr dd, .inl (.cells #[.int .i8 away] 51 (0, 0)), .inl (.cells #[.int .u16 bend] 50 (0, 0))]) #[.int .i64 (deD dec (nth ls) k)] 3 (posn w [d.n, d3.n, 1, dd.n, 1, 1]) vD k (rowX (deD dec (nth ls)) k) (lay_extends (lay w [.inl (.cells #[.string ⟨#[66, 111, 100, 121]⟩, .slice (some ⟨gG, 0, none⟩) (k + 1) cG, vD, .int .i64 0, .int .i64 0, .int .i64 bend] 43 (0, 0)), .inr dd, .inl (.cells #[.int .i8 away] 51 (0, 0)), .inl (.cells #[.int .u16 bend] 50 (0, 0))]) [.inr d1, .inl (.cells #[.int .i64 (deD dec (nth ls) k)] 3 (0, 0)), .inr d, .inr d3]) (by rw [lay_size w [.inl (.cells #[.string ⟨#[66, 111, 100, 121]⟩, .slice (some ⟨gG, 0, none⟩) (k + 1) cG, vD, .int .i64 0, .int .i64 0, .int .i64 bend] 43 (0, 0)), .inr dd, .inl (.cells #[.int .i8 away] 51 (0, 0)), .inl (.cells #[.int .u16 bend] 50 (0, 0))]]; exact row_lay hD2 [.inr d1, .inl (.cells #[.int .i64 (deD dec (nth ls) k)] 3 (0, 0)), .inr d]) (lay_get w [.inr d1, .inl (.cells #[.int .i64 (deD dec (nth ls) k)] 3 (0, 0)), .inr d, .inr d3, .inl (.cells #[.string ⟨#[66, 111, 100, 121]⟩, .slice (some ⟨gG, 0, none⟩) (k + 1) cG, vD, .int .i64 0, .int .i64 0, .int .i64 bend] 43 (0, 0)), .inr dd, .inl (.cells #[.int .i8 away] 51 (0, 0)), .inl (.cells #[.int .u16 bend] 50 (0, 0))] 1 _ rfl) rfl rfl rfl (by simp [Value.oneCell']) (by unfold maxLen; omega) (by omega) ?_
          intro gD cD d4 hD' hgrow hat
          rw [lay_size w [.inl (.cells #[.string ⟨#[66, 111, 100, 121]⟩, .slice (some ⟨gG, 0, none⟩) (k + 1) cG, vD, .int .i64 0, .int .i64 0, .int .i64 bend] 43 (0, 0)), .inr dd, .inl (.cells #[.int .i8 away] 51 (0, 0)), .inl (.cells #[.int .u16 bend] 50 (0, 0))]] at hD'
          have hG3 := (row_lay hG2 [.inr d1, .inl (.cells #[.int .i64 (deD dec (nth ls) k)] 3 (0, 0)), .inr d]).kept hgrow (.inr (by
            rcases hap with h | h
            · rw [h]; simp [Value.ownBlock]
            · exact fun e => h e.symm))
          have hap2 : gG ≠ gD := by
            rcases hat with h | h
            · intro e; subst e
              rcases hap with h' | h'
              · rw [h'] at h; cases h
              · exact h' h
            · intro e
              have h3 := (hG2.lt gG rfl).2
              have h4 := (lay_extends (lay w [.inr d3, .inl (.cells #[.string ⟨#[66, 111, 100, 121]⟩, .slice (some ⟨gG, 0, none⟩) (k + 1) cG, vD, .int .i64 0, .int .i64 0, .int .i64 bend] 43 (0, 0)), .inr dd, .inl (.cells #[.int .i8 away] 51 (0, 0)), .inl (.cells #[.int .u16 bend] 50 (0, 0))]) [.inr d1, .inl (.cells #[.int .i64 (deD dec (nth ls) k)] 3 (0, 0)), .inr d]).size
              have h5 : gD = (lay (lay w [.inr d3, .inl (.cells #[.string ⟨#[66, 111, 100, 121]⟩, .slice (some ⟨gG, 0, none⟩) (k + 1) cG, vD, .int .i64 0, .int .i64 0, .int .i64 bend] 43 (0, 0)), .inr dd, .inl (.cells #[.int .i8 away] 51 (0, 0)), .inl (.cells #[.int .u16 bend] 50 (0, 0))]) [.inr d1, .inl (.cells #[.int .i64 (deD dec (nth ls) k)] 3 (0, 0)), .inr d]).heap.size := h
              omega
          have hG4 := row_swap (o' := .cells #[.string ⟨#[66, 111, 100, 121]⟩, .slice (some ⟨gG, 0, none⟩) (k + 1) cG, .slice (some ⟨gD, 0, none⟩) (k + 1) cD, .int .i64 0, .int .i64 0, .int .i64 bend] 43 (0, 0)) hbase hG3
          have hD4 := row_swap (o' := .cells #[.string ⟨#[66, 111, 100, 121]⟩, .slice (some ⟨gG, 0, none⟩) (k + 1) cG, .slice (some ⟨gD, 0, none⟩) (k + 1) cD, .int .i64 0, .int .i64 0, .int .i64 bend] 43 (0, 0)) hbase hD'
          go_wp2_with fail
          go_roundw
          case rel => exact ⟨k + 1, hlt2, by first | rfl | go_num, .slice (some ⟨gG, 0, none⟩) (k + 1) cG, .slice (some ⟨gD, 0, none⟩) (k + 1) cD, d4, rfl, by rw [rowX_succ]; exact hG4, by rw [rowX_succ]; exact hD4, .inr (fun e => hap2 (by simpa [Value.ownBlock] using e))⟩
          case measure => simp [intOf]; omega
        · obtain rfl : k = 25 := by omega
          obtain ⟨gG, cG, rfl⟩ := row_form hG (by decide)
          obtain ⟨gD, cD, rfl⟩ := row_form hD (by decide)
          have hT : Trk (lay w [.inr de, .inl (.cells #[.string ⟨#[66, 111, 100, 121]⟩, .slice (some ⟨gG, 0, none⟩) 25 cG, .slice (some ⟨gD, 0, none⟩) 25 cD, .int .i64 0, .int .i64 0, .int .i64 bend] 43 (0, 0)), .inr dd, .inl (.cells #[.int .i8 away] 51 (0, 0)), .inl (.cells #[.int .u16 bend] 50 (0, 0))]) (.agg #[.string ⟨#[66, 111, 100, 121]⟩, .slice (some ⟨gG, 0, none⟩) 25 cG, .slice (some ⟨gD, 0, none⟩) 25 cD, .int .i64 0, .int .i64 0, .int .i64 bend]) (trkT start dec bend (nth ls)) :=
            ⟨_, _, rfl, (show (4 : Nat) ≤ 9223372036854775807 by decide), lst_row hG (by decide) (fun i hi' => i64_wf (by unfold ghD; omega) (by unfold ghD; omega)), lst_row hD (by decide) (fun i hi' => by
              have := deX_bd d0 hd1 hsb i
              exact i64_wf (by unfold deD rnd; omega) (by unfold deD rnd; omega)), (show (Lit.int .i64 0).wf = true by decide), (show (Lit.int .i64 0).wf = true by decide), (show (Lit.int .i64 bend).wf = true from i64_wf (by omega) (by omega))⟩
          have hTB := trkT_ok (start := start) d0 hd1 b0 b1 hsb
          have he := instE_0.2 ⟨hTB, hms⟩
          have HG := Lib.hid (inc_Gha_ok _ _ ms (lay w [.inr de, .inl (.cells #[.string ⟨#[66, 111, 100, 121]⟩, .slice (some ⟨gG, 0, none⟩) 25 cG, .slice (some ⟨gD, 0, none⟩) 25 cD, .int .i64 0, .int .i64 0, .int .i64 bend] 43 (0, 0)), .inr dd, .inl (.cells #[.int .i8 away] 51 (0, 0)), .inl (.cells #[.int .u16 bend] 50 (0, 0))]) hT he)
          have HD := Lib.hid (fun x dx => inc_Dec_ok _ _ ms (lay w (.inl x :: .inr dx :: [.inr de, .inl (.cells #[.string ⟨#[66, 111, 100, 121]⟩, .slice (some ⟨gG, 0, none⟩) 25 cG, .slice (some ⟨gD, 0, none⟩) 25 cD, .int .i64 0, .int .i64 0, .int .i64 bend] 43 (0, 0)), .inr dd, .inl (.cells #[.int .i8 away] 51 (0, 0)), .inl (.cells #[.int .u16 bend] 50 (0, 0))])) (hT.lay [.inl x, .inr dx]) he)
          have hdec := tru_dec (start := start) d0 hd1 b0 b1 a0 a1 hsb hms.1 hms.2
          have hgha := fun gl gh X => tru_gha (start := start) (dec := dec) (gl := gl) (gh := gh) (X := X) b0 a0 a1 hsb hms.1 hms.2
          have hXb := gha_bd s0 s1 b0 b1 a0 a1 hsb hms.1 hms.2
          have hdo := decO_meets (gd_of hTB) ms ms
          have htb := fun gl gh => turn_bd (gl := gl) (gh := gh) (validB_iff.1 (ghaO_valid (gd_of hTB) ms ms)).1
          have HR1' := Lib.hid (fun L => HR1.out.lay L)
          generalize hgl : turnLo (ghaO (trkT start dec bend (nth ls)) ms ms).1 (ghaO (trkT start dec bend (nth ls)) ms ms).2 = gl at HG
          generalize hgh : turnHi (ghaO (trkT start dec bend (nth ls)) ms ms).1 (ghaO (trkT start dec bend (nth ls)) ms ms).2 = gh at HG
          generalize hdl : mx (decO (trkT start dec bend (nth ls)) ms ms).1 (-5400000) = dl at HD hdec
          generalize hdh : mn (decO (trkT start dec bend (nth ls)) ms ms).2 5400000 = dh at HD hdec
          clear hT he hTB hG hD hne2
          have q1 : ms.tdiv 3600000 = ms / 3600000 := Int.tdiv_eq_ediv_of_nonneg hms.1
          have q2 : ms.tmod 3600000 = ms % 3600000 := Int.tmod_eq_emod_of_nonneg hms.1
          go_wp2_with (first | (go_at_call 23; refine HG.out.mono ?_; rintro e w' ⟨rfl, d, rfl⟩) | (go_at_call 24; refine (HD.out _ _).mono ?_; rintro e w' ⟨rfl, d, rfl⟩))
          go_at_call 32
          refine (tru_value (ghX start (nth ls)) g1 c1 _ _ _ _ ms away bend _ ?_ hms.1 hms.2 a0 a1 b0 b1 ?_ ?_ ?_ ?_ ?_ ?_ ?_ ?_).mono ?_
          exact row_on (A := [_, _, _, _, _, _, _, _]) HR1.out
          · simp only [lay_size, shp, posn, List.sum_cons, List.sum_nil, Ext.n]; omega
          · simp only [lay_size, shp, posn, List.sum_cons, List.sum_nil, Ext.n]; omega
          · simp only [lay_size, shp, posn, List.sum_cons, List.sum_nil, Ext.n]; omega
          · simp only [lay_size, shp, posn, List.sum_cons, List.sum_nil, Ext.n]; omega
          · simp [go_sem]
          · simp [go_sem]
          · simp [go_sem]
          · simp [go_sem]
          rintro e w' ⟨rfl, d, rfl⟩
          go_wp2_with fail
          go_at_call 32
          refine (tru_value (deX dec (nth ls)) g2 c2 _ _ _ _ ms away bend _ ?_ hms.1 hms.2 a0 a1 b0 b1 ?_ ?_ ?_ ?_ ?_ ?_ ?_ ?_).mono ?_
          exact row_on (A := [_, _, _, _, _, _, _, _, _]) HR2.out
          · simp only [lay_size, shp, posn, List.sum_cons, List.sum_nil, Ext.n]; omega
          · simp only [lay_size, shp, posn, List.sum_cons, List.sum_nil, Ext.n]; omega
          · simp only [lay_size, shp, posn, List.sum_cons, List.sum_nil, Ext.n]; omega
          · simp only [lay_size, shp, posn, List.sum_cons, List.sum_nil, Ext.n]; omega
          · simp [go_sem]
          · simp [go_sem]
          · simp [go_sem]
          · simp [go_sem]
          rintro e w' ⟨rfl, d, rfl⟩
          have hro : ghaO (trkT start dec bend (nth ls)) ms ms = ghaO (trkT start dec bend (nth ls)) ms ms := rfl
          replace hgha := hgha gl gh _ hgl.symm hgh.symm rfl
          replace htb := htb gl gh hgl.symm hgh.symm
          have hdb : -5400000 ≤ dl ∧ dl ≤ 5400000 ∧ -5400000 ≤ dh ∧ dh ≤ 5400000 := by unfold mx at hdl; unfold mn at hdh; split at hdl <;> split at hdh <;> omega
          clear hgl hgh hdl hdh hro hdo
          generalize valX (ghX start (nth ls)) ms (offX away bend) = X at *
          generalize valX (deX dec (nth ls)) ms (offX away bend) = Y at *
          have w1 : IntKind.i64.wrap (dl * 3600000) = dl * 3600000 := IntWalk.i64_in _ (by omega)
          have w2 : IntKind.i64.wrap (dh * 3600000) = dh * 3600000 := IntWalk.i64_in _ (by omega)
          have w3 : IntKind.i64.wrap (gl * 3600000) = gl * 3600000 := IntWalk.i64_in _ (by omega)
          have w4 : IntKind.i64.wrap (X - gl * 3600000) = X - gl * 3600000 := IntWalk.i64_in _ (by omega)
          have w5 : IntKind.i64.wrap (gh - gl) = gh - gl := IntWalk.i64_in _ (by omega)
          have w6 : IntKind.i64.wrap ((gh - gl) * 3600000) = (gh - gl) * 3600000 := IntWalk.i64_in _ (by omega)
          have u1 : decide (Y < dl * 3600000) = false := decide_eq_false (by omega)
          have u2 : decide (dh * 3600000 < Y) = false := decide_eq_false (by omega)
          have u3 : (X - gl * 3600000).tmod 77760000000000 = ghaR X gl := rfl
          have hzb : -77760000000000 < ghaR X gl ∧ ghaR X gl < 77760000000000 :=
            ⟨Int.lt_tmod_of_pos _ (by decide), Int.tmod_lt_of_pos (X - gl * 3600000) (show (0 : Int) < 77760000000000 by decide)⟩
          have u6 : IntKind.i64.wrap (ghaR X gl) = ghaR X gl := IntWalk.i64_in _ (by omega)
          by_cases hz : ghaR X gl < 0
          · have u4 : decide (ghaR X gl < 0) = true := decide_eq_true hz
            have w7 : IntKind.i64.wrap (ghaR X gl + 77760000000000) = ghaR X gl + 77760000000000 := IntWalk.i64_in _ (by omega)
            have u5 : decide (ghaR X gl + 77760000000000 ≤ (gh - gl) * 3600000) = true := decide_eq_true (hgha.2 hz)
            generalize ghaR X gl = Z at *
            go_wp2_with fail
            go_ret
            exact ⟨rfl, lay_ex _ _⟩
          · have u4 : decide (ghaR X gl < 0) = false := decide_eq_false hz
            have u5 : decide (ghaR X gl ≤ (gh - gl) * 3600000) = true := decide_eq_true (hgha.1 (by omega))
            generalize ghaR X gl = Z at *
            go_wp2_with fail
            go_ret
            exact ⟨rfl, lay_ex _ _⟩
end Go.Proofs.Ytknammeehedbdaa

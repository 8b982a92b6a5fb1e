/- Contracts and plain laws, several texts in one: Pg4; Pg5; Rf1; Rf2 -/
import Derived.Test.YtlkphcjlgbimkaaGreatProg
import Derived.WalkKit
import Derived.WalkSpells
import Derived.WalkLawsBesides
import Derived.Lib.Hide
import Derived.BigQuiet
import Derived.Deep.RegionWith
import Derived.Maps.Own
import Derived.RangeFuncNested
import Derived.RangeFuncBound
import Derived.RangeFuncCalls
import Derived.RangeFuncLeaves
import Derived.Shelf.Abstract
import Derived.Shelf.RegionOpen
import Derived.OwnWalkIn
import Derived.TacticsInMore
import Derived.LoopNIn
import Derived.LoopIn
import Derived.Test.YtlkphcjlgbimkaaGreatBAA
import Derived.Test.YtlkphcjlgbimkaaGreatBAB
import Derived.Test.YtlkphcjlgbimkaaGreatBAD
import Derived.Test.YtlkphcjlgbimkaaGreatBAE
import Derived.Test.YtlkphcjlgbimkaaGreatBAQ
/- The first day of 2000; a page of one track. -/
namespace Go.Proofs.YtlkphcjlgbimkaaGreat
open Go.RowKit

set_option maxHeartbeats 400000 in
theorem cal0_right (w : World) : Calls Tryz.prog 171 #[.int .i64 2000, .int .i64 1] w fun e w' => e = .returned (.bool true) ∧ w' = w := by
  go_enter Tryz.func171, Tryz.ntmps171
  go_wp2
  go_ret
  exact ⟨rfl, rfl⟩
set_option maxHeartbeats 400000 in
theorem cal0_before (w : World) : Calls Tryz.prog 173 #[.int .i64 2000] w fun e w' => e = .returned (.int .i64 730119) ∧ w' = w := by
  go_enter Tryz.func173, Tryz.ntmps173
  go_wp2
  go_ret
  exact ⟨rfl, rfl⟩
set_option maxHeartbeats 400000 in
theorem cal0_lengths (w : World) : Calls Tryz.prog 197 #[] w fun e w' => e = .returned (.agg #[.int .i64 31, .int .i64 28, .int .i64 31, .int .i64 30, .int .i64 31, .int .i64 30, .int .i64 31, .int .i64 31, .int .i64 30, .int .i64 31, .int .i64 30, .int .i64 31]) ∧ ∃ d, w' = bw w d := by
  refine lay_start ?_
  go_enter Tryz.func197, Tryz.ntmps197
  go_wp2
  exact bodyPost_ret (v := .agg #[.int .i64 31, .int .i64 28, .int .i64 31, .int .i64 30, .int .i64 31, .int .i64 30, .int .i64 31, .int .i64 31, .int .i64 30, .int .i64 31, .int .i64 30, .int .i64 31]) (by simp [results, Tryz.results197, go_sem]) rfl ⟨rfl, lay_ex _ _⟩
set_option maxHeartbeats 400000 in
theorem cal0_days (w : World) : Calls Tryz.prog 172 #[.int .i64 2000, .int .i64 1] w fun e w' => e = .returned (.int .i64 31) ∧ ∃ d, w' = bw w d := by
  have i0 : ∀ w, (Instr.index 180 (.agg #[.int .i64 31, .int .i64 28, .int .i64 31, .int .i64 30, .int .i64 31, .int .i64 30, .int .i64 31, .int .i64 31, .int .i64 30, .int .i64 31, .int .i64 30, .int .i64 31]) (.int .i64 0)).run Tryz.prog w = .ok (.int .i64 31) w := fun _ => by kernel_rfl
  refine lay_start ?_
  go_enter Tryz.func172, Tryz.ntmps172
  go_wp2_with (go_at_call 197; refine (cal0_lengths _).mono ?_; rintro e w' ⟨rfl, d, rfl⟩)
  go_ret
  exact ⟨rfl, lay_ex _ _⟩
set_option maxHeartbeats 400000 in
theorem cal0_Valid (w : World) : Calls Tryz.prog 148 #[.agg #[.int .i64 2000, .int .i64 1, .int .i64 1]] w fun e w' => e = .returned (.bool true) ∧ ∃ d, w' = bw w d := by
  refine lay_start ?_
  go_enter Tryz.func148, Tryz.ntmps148
  go_wp2_with fail
  refine region_bw (by kernel_rfl) (by kernel_rfl) ?_
  repeat (go_big_quiet_step ((first | (go_at_call 171; exact bqs (cal0_right _) ⟨_, rfl⟩) | (go_at_call 172; exact bq (cal0_days _) (fun d => lay_join _ _ _ d)))))
  refine wpQuiet_nil ?_
  rintro w' ⟨d, rfl⟩
  rw [lay_bw]
  go_wp2
  go_ret
  exact ⟨rfl, lay_ex _ _⟩
set_option maxHeartbeats 400000 in
theorem cal0_dayOfYear (w : World) : Calls Tryz.prog 174 #[.agg #[.int .i64 2000, .int .i64 1, .int .i64 1]] w fun e w' => e = .returned (.int .i64 1) ∧ ∃ d, w' = bw w d := by
  refine lay_start ?_
  go_enter Tryz.func174, Tryz.ntmps174
  go_wp2_with fail
  refine wp_loop_rounds 1 ?_
  rw [rounds_succ]
  go_wp2
  go_ret
  exact ⟨rfl, lay_ex _ _⟩
set_option maxHeartbeats 400000 in
theorem cal0_number (w : World) : Calls Tryz.prog 149 #[.agg #[.int .i64 2000, .int .i64 1, .int .i64 1]] w fun e w' => e = .returned (.int .i64 0) ∧ ∃ d, w' = bw w d := by
  refine lay_start ?_
  go_enter Tryz.func149, Tryz.ntmps149
  go_wp2_with fail
  refine region_bw (by kernel_rfl) (by kernel_rfl) ?_
  repeat (go_big_quiet_step ((first | (go_at_call 173; exact bqs (cal0_before _) ⟨_, rfl⟩) | (go_at_call 174; exact bq (cal0_dayOfYear _) (fun d => lay_join _ _ _ d)))))
  refine wpQuiet_nil ?_
  rintro w' ⟨d, rfl⟩
  rw [lay_bw]
  go_wp2
  go_ret
  exact ⟨rfl, lay_ex _ _⟩
set_option maxHeartbeats 400000 in
theorem cal0_Number (w : World) : Calls Tryz.prog 108 #[.agg #[.int .i64 2000, .int .i64 1, .int .i64 1]] w fun e w' => e = .returned (.tuple #[.int .i64 0, .int .i64 0]) ∧ ∃ d, w' = bw w d := by
  refine lay_start ?_
  go_enter Tryz.func108, Tryz.ntmps108
  go_wp2_with (first | (go_at_call 148; refine (cal0_Valid _).mono ?_; rintro e w' ⟨rfl, d, rfl⟩) | (go_at_call 149; refine (cal0_number _).mono ?_; rintro e w' ⟨rfl, d, rfl⟩))
  go_ret2
  exact ⟨rfl, lay_ex _ _⟩
end Go.Proofs.YtlkphcjlgbimkaaGreat
/- A page of one track is valid just if the track is. -/
namespace Go.Proofs.YtlkphcjlgbimkaaGreat
open Go.RowKit

theorem map_empty {P : Program} {k : TypeId} {R : Value → Option (DataW Unit × List MemPlace)} {W : World} {b : Nat} (h : W.heap[b]? = some (.map #[] 0)) : W.ownsMap P k R b 0 (.map []) := by
  obtain ⟨es, clock, hb, F, hs, hD⟩ := World.ownsMap_made W P k R
  have e : (W.alloc (.map #[] 0)).heap[W.heap.size]? = some (.map #[] 0) := by show (W.heap.push _)[_]? = _; simp
  rw [e] at hb
  simp only [Option.some.injEq, Obj.map.injEq] at hb
  obtain ⟨rfl, rfl⟩ := hb
  exact ⟨#[], 0, h, F, hs, hD⟩
theorem zero_bool0 (w : World) : (zeroValue 4).run Tryz.prog w = .ok (.bool false) w := by kernel_rfl
theorem map_type : Tryz.prog.underlying 156 = some (.map 9 4) := by kernel_rfl
set_option maxRecDepth 100000 in
theorem bool_of {v : Value} {x : Bool} {ps : List MemPlace} (h : plainElem (H := Unit) Tryz.prog 4 v = some (.lit (.bool x), ps)) : v = .bool x := by
  unfold plainElem at h
  rw [Tryz.underlying4] at h
  cases v <;> simp at h
  rw [h.1]
theorem look_none {W : World} {b : Nat} (h : W.heap[b]? = some (.map #[] 0)) {s : ByteArray} (hs : s.size ≤ maxLen) : (Instr.lookup 156 (.map (some b)) (.string s) false).run Tryz.prog W = .ok (.bool false) W := by
  obtain ⟨v, ps, hrun, hv⟩ := (map_empty (P := Tryz.prog) (k := 9) (R := plainElem Tryz.prog 4) h).lookup (Maps.string_keyed Tryz.underlying9) map_type (zero_bool0 W) (plainElem_bool Tryz.underlying4 false) (WideMaps.keyOf_string_mk (P := Tryz.prog) Tryz.underlying9 hs)
  have e : DataW.atKey (H := Unit) (.map []) (.string s.data.toList) (.lit (.bool false)) = .lit (.bool false) := rfl
  rw [e] at hv
  rw [hrun, bool_of hv]
theorem put_first {W : World} {b : Nat} (h : W.heap[b]? = some (.map #[] 0)) {s : ByteArray} (hs : s.size ≤ maxLen) {w0 : World} (hb : Below w0.heap.size w0 W) (hB : w0.heap.size ≤ b) :
    ∃ d, (Instr.mapUpdate 156 (.map (some b)) (.string s) (.bool true)).run Tryz.prog W = .ok () (bw w0 d) := by
  obtain ⟨w', hrun, _, hg⟩ := (map_empty (P := Tryz.prog) (k := 9) (R := plainElem Tryz.prog 4) h).update (Maps.string_keyed Tryz.underlying9) map_type (by decide) (WideMaps.keyOf_string_mk (P := Tryz.prog) Tryz.underlying9 hs) (plainElem_bool Tryz.underlying4 true)
  obtain ⟨d, hd⟩ := bw_of (hb.grown hg hb.size (fun k e => by cases e; exact hB))
  exact ⟨d, by rw [hrun, hd]⟩
set_option maxHeartbeats 2000000 in
set_option maxRecDepth 100000 in
theorem page_Valid_one (v : Value) (t : TrkV) (b : Nat) (w : World) (hv : Trk w v t) (hb : b < w.heap.size) (hc : ∀ c, v = .agg c → ∀ i, i < 6 → w.cell? ⟨b, i, none⟩ = c[i]?) :
    Calls Tryz.prog 106 #[.agg #[.int .i64 2000, .int .i64 1, .int .i64 1, .slice (some ⟨b, 0, none⟩) 1 1]] w fun e w' => e = .returned (.bool (trkB t)) ∧ ∃ d, w' = bw w d := by
  have HV := Lib.hid hv
  obtain ⟨vg, vd, rfl, hs, hg, hd, hp, hq, hr⟩ := hv
  obtain ⟨s, gs, ds, p, q, r⟩ := t
  simp only at hs hg hd hp hq hr HV ⊢
  obtain ⟨ag, cg, rfl, g1, -, -⟩ := hg
  obtain ⟨ad, cd, rfl, d1, -, -⟩ := hd
  have c0 := hc _ rfl 0 (by decide)
  have c1 := hc _ rfl 1 (by decide)
  have c2 := hc _ rfl 2 (by decide)
  have c3 := hc _ rfl 3 (by decide)
  have c4 := hc _ rfl 4 (by decide)
  have c5 := hc _ rfl 5 (by decide)
  simp at c0 c1 c2 c3 c4 c5
  obtain ⟨T, hT⟩ : ∃ T, T = trkB ⟨s, gs, ds, p, q, r⟩ := ⟨_, rfl⟩
  have VT := fun L => page_validTrack _ _ (lay w L) (HV.out.lay L)
  rw [← hT] at VT
  have HVT := Lib.hid VT
  rw [← hT]
  clear VT hT
  have hmm := @run_makeMap Tryz.prog
  clear hc hp hq hr
  refine lay_start ?_
  go_enter Tryz.func106, Tryz.ntmps106
  go_wp2_with (go_at_call 108; refine (cal0_Number _).mono ?_; rintro e w' ⟨rfl, d, rfl⟩)
  refine wp_loop_rounds 2 ?_
  rw [rounds_succ]
  go_wp2_with fail
  refine (HVT.out _).mono ?_
  rintro e w' ⟨rfl, d2, rfl⟩
  have hlk : (Instr.lookup 156 (.map (some (posn w [d.n, 1]))) (.string s) false).run Tryz.prog (lay w [.inr d2, .inl (.cells #[.string s, .slice ag gs.length cg, .slice ad ds.length cd, .int .i64 p, .int .i64 q, .int .i64 r] 57), .inl (.map #[] 0), .inr d, .inl (.cells #[.int .i64 2000, .int .i64 1, .int .i64 1, .slice (some ⟨b, 0, none⟩) 1 1] 53)]) = .ok (.bool false) _ := look_none (by exact lay_get w _ 2 _ rfl) hs
  obtain ⟨e2, hup⟩ : ∃ e2, (Instr.mapUpdate 156 (.map (some (posn w [d.n, 1]))) (.string s) (.bool true)).run Tryz.prog (lay w [.inr d2, .inl (.cells #[.string s, .slice ag gs.length cg, .slice ad ds.length cd, .int .i64 p, .int .i64 q, .int .i64 r] 57), .inl (.map #[] 0), .inr d, .inl (.cells #[.int .i64 2000, .int .i64 1, .int .i64 1, .slice (some ⟨b, 0, none⟩) 1 1] 53)]) = .ok () (lay w [.inr e2]) :=
    put_first (by exact lay_get w _ 2 _ rfl) hs (lay_extends w _) (Nat.le_add_right _ _)
  cases T
  · go_wp2
    go_ret
    exact ⟨rfl, lay_ex _ _⟩
  · go_wp2_with fail
    rw [rounds_succ]
    go_wp2
    go_ret
    exact ⟨rfl, lay_ex _ _⟩
set_option maxHeartbeats 1000000 in
theorem inc_valid (v : Value) (t : TrkV) (w : World) (hv : Trk w v t) :
    Calls Tryz.prog 204 #[v] w fun e w' => e = .returned (.bool (trkB t)) ∧ ∃ d, w' = bw w d := by
  have HP := Lib.hid (fun b L hb hc => page_Valid_one v t b (lay w L) (hv.lay L) hb hc)
  obtain ⟨vg, vd, rfl, -⟩ := hv
  refine lay_start ?_
  go_enter Tryz.func204, Tryz.ntmps204
  go_wp2_with (go_at_call 106; refine (HP.out _ _ (by rw [lay_size]; unfold posn shp; simp [shp]) (by intro c hc i hi; injection hc with hc; subst hc; rw [lay_cell _ _ _ _ (by simp) rfl rfl]; rfl)).mono ?_; rintro e w' ⟨rfl, d, rfl⟩)
  go_ret
  exact ⟨rfl, lay_ex _ _⟩
end Go.Proofs.YtlkphcjlgbimkaaGreat
/- Increments at an instant: the functions that pieces hands on. -/
namespace Go.Proofs.YtlkphcjlgbimkaaGreat
open Go.RowKit

set_option maxHeartbeats 400000 in
theorem inc_around (n : Int) (w : World) (h1 : -1099511627776 ≤ n) (h2 : n ≤ 1099511627776) :
    Calls Tryz.prog 208 #[.int .i64 n] w fun e w' => e = .returned (.agg #[.int .i64 (n - 50), .int .i64 (n + 50)]) ∧ ∃ d, w' = bw w d := by
  refine lay_start ?_
  go_enter Tryz.func208, Tryz.ntmps208
  go_wp2
  exact bodyPost_ret (v := (.agg #[.int .i64 (n - 50), .int .i64 (n + 50)])) (by simp [results, Tryz.results208, go_sem]) rfl ⟨rfl, lay_ex _ _⟩
/-- The arc at an instant, A being the arcs of the hours. -/
def insL (A : Int → Int × Int) (ms : Int) : Int := if ms % 3600000 = 0 then (A (ms / 3600000)).1 else linLo (A (ms / 3600000)).1 (A (ms / 3600000 + 1)).1 (ms % 3600000) 3600000
def insH (A : Int → Int × Int) (ms : Int) : Int := if ms % 3600000 = 0 then (A (ms / 3600000)).2 else linHi (A (ms / 3600000)).2 (A (ms / 3600000 + 1)).2 (ms % 3600000) 3600000
structure ArcsOk (A : Int → Int × Int) : Prop where
  lo : ∀ h, -1099511627776 ≤ (A h).1
  hi : ∀ h, (A h).2 ≤ 1099511627776
  le : ∀ h, (A h).1 ≤ (A h).2
set_option maxHeartbeats 2000000 in
theorem inc_instantC (A : Int → Int × Int) (g : Nat) (q : Value) (b : Nat) (ms : Int) (w : World) (hA : ArcsOk A) (h0 : 0 ≤ ms) (h1 : ms ≤ 86400000)
    (eg : ∀ args w, (callFunc g args).run Tryz.prog w = .ok (.enter g args) w)
    (hat : ∀ (L : List (Obj ⊕ Ext)) (h : Int), 0 ≤ h → h ≤ 24 → Calls Tryz.prog g #[.int .i64 h, q] (lay w L) fun e w' => e = .returned (.agg #[.int .i64 ((A h).1), .int .i64 ((A h).2)]) ∧ ∃ d, w' = bw (lay w L) d)
    (hb : b < w.heap.size) (hc : w.cell? ⟨b, 0, none⟩ = some (.func (.func g) #[] #[q])) :
    Calls Tryz.prog 216 #[.int .i64 ms, .pointer (some ⟨b, 0, none⟩)] w fun e w' => e = .returned (.agg #[.int .i64 (insL A ms), .int .i64 (insH A ms)]) ∧ ∃ d, w' = bw w d := by
  have HA := Lib.hid hat
  clear hat
  by_cases hr : ms % 3600000 = 0
  · have e : insL A ms = (A (ms / 3600000)).1 ∧ insH A ms = (A (ms / 3600000)).2 := by unfold insL insH; rw [if_pos hr, if_pos hr]; exact ⟨rfl, rfl⟩
    rw [e.1, e.2]
    have hq : (ms % 3600000 == 0) = true := beq_iff_eq.2 hr
    have b1 : 0 ≤ ms / 3600000 := by omega
    have b2 : ms / 3600000 ≤ 24 := by omega
    clear e hr
    refine lay_start ?_
    go_enter Tryz.func216, Tryz.ntmps216
    go_wp2_with fail
    refine (HA.out _ _ b1 b2).mono ?_
    rintro e w' ⟨rfl, d, rfl⟩
    go_wp2
    exact bodyPost_ret (v := (.agg #[.int .i64 ((A (ms / 3600000)).1), .int .i64 ((A (ms / 3600000)).2)])) (by simp [results, Tryz.results216, go_sem]) rfl ⟨rfl, lay_ex _ _⟩
  · have e : insL A ms = linLo (A (ms / 3600000)).1 (A (ms / 3600000 + 1)).1 (ms % 3600000) 3600000 ∧ insH A ms = linHi (A (ms / 3600000)).2 (A (ms / 3600000 + 1)).2 (ms % 3600000) 3600000 := by unfold insL insH; rw [if_neg hr, if_neg hr]; exact ⟨rfl, rfl⟩
    rw [e.1, e.2]
    have hq : (ms % 3600000 == 0) = false := beq_eq_false_iff_ne.2 hr
    have b1 : 0 ≤ ms / 3600000 := by omega
    have b2 : ms / 3600000 + 1 ≤ 24 := by omega
    have hw1 : IntKind.i64.wrap (ms / 3600000 + 1) = ms / 3600000 + 1 := IntWalk.i64_in _ (by omega)
    have r0 : 0 ≤ ms % 3600000 ∧ ms % 3600000 < 3600000 := by omega
    have LK : LinOk (A (ms / 3600000)).1 (A (ms / 3600000)).2 (A (ms / 3600000 + 1)).1 (A (ms / 3600000 + 1)).2 (ms % 3600000) 3600000 := by
      have := hA.lo (ms / 3600000); have := hA.hi (ms / 3600000); have := hA.le (ms / 3600000)
      have := hA.lo (ms / 3600000 + 1); have := hA.hi (ms / 3600000 + 1); have := hA.le (ms / 3600000 + 1)
      constructor <;> omega
    have HL := Lib.hid (fun W => inc_linear _ _ _ _ _ _ W LK)
    have HA1 := Lib.hid (fun L => HA.out L (ms / 3600000) b1 (by omega))
    have HA2 := Lib.hid (fun L => HA.out L (ms / 3600000 + 1) (by omega) b2)
    clear e hr LK
    refine lay_start ?_
    go_enter Tryz.func216, Tryz.ntmps216
    go_wp2_with fail
    refine region_bw_tail 9 (by kernel_rfl) (by kernel_rfl) ?_
    simp only [List.take_succ_cons, List.take_zero, List.drop_succ_cons, List.drop_zero]
    repeat (go_big_quiet_step ((first | (with_reducible refine bq (HA1.out _) ?_; exact (fun d => lay_join _ _ _ d)) | (with_reducible refine bq (HA2.out _) ?_; exact (fun d => lay_join _ _ _ d)) | (go_at_call 217; with_reducible refine bq (HL.out _) ?_; exact (fun d => lay_join _ _ _ d)))))
    refine wpQuiet_nil ?_
    rintro w' ⟨d, rfl⟩
    rw [lay_bw]
    go_wp2
    exact bodyPost_ret (v := (.agg #[.int .i64 (linLo (A (ms / 3600000)).1 (A (ms / 3600000 + 1)).1 (ms % 3600000) 3600000), .int .i64 (linHi (A (ms / 3600000)).2 (A (ms / 3600000 + 1)).2 (ms % 3600000) 3600000)])) (by simp [results, Tryz.results216, go_sem]) rfl ⟨rfl, lay_ex _ _⟩
end Go.Proofs.YtlkphcjlgbimkaaGreat
/- increments.pieces: the iterator's contract. -/
namespace Go.Proofs.YtlkphcjlgbimkaaGreat
open Go.RowKit Go.Shelf
attribute [local go_sem] Oper.semAt_some

/-- The blocks of p lie as they lay. -/
structure Kept (p : Nat → Prop) (A B : World) : Prop where
  size : A.heap.size ≤ B.heap.size
  same : ∀ k, p k → B.heap[k]? = A.heap[k]?
theorem Kept.refl (p : Nat → Prop) (A : World) : Kept p A A := ⟨Nat.le_refl _, fun _ _ => rfl⟩
theorem Kept.trans {p : Nat → Prop} {A B C : World} (h : Kept p A B) (k : Kept p B C) : Kept p A C := ⟨Nat.le_trans h.size k.size, fun i hi => (k.same i hi).trans (h.same i hi)⟩
theorem Kept.cell {p : Nat → Prop} {A B : World} (h : Kept p A B) {b i : Nat} (hb : p b) : B.cell? ⟨b, i, none⟩ = A.cell? ⟨b, i, none⟩ := by unfold World.cell?; rw [h.same b hb]
theorem Kept.of_below {p : Nat → Prop} {A B : World} (h : Below A.heap.size A B) (hp : ∀ k, p k → k < A.heap.size) : Kept p A B := ⟨h.size, fun k hk => h.block k (hp k hk)⟩
theorem Kept.bw {p : Nat → Prop} {A B : World} (h : Kept p A B) (hp : ∀ k, p k → k < A.heap.size) (d : Ext) : Kept p A (bw B d) :=
  h.trans (Kept.of_below (bw_below B d) fun k hk => Nat.lt_of_lt_of_le (hp k hk) h.size)
theorem Kept.lay {p : Nat → Prop} {A B : World} (h : Kept p A B) (hp : ∀ k, p k → k < A.heap.size) (L : List (Obj ⊕ Ext)) : Kept p A (lay B L) := by
  obtain ⟨d, hd⟩ := lay_ex B L
  rw [hd]; exact h.bw hp d
theorem bw_grown (W : World) (d : Ext) : W.grownBy (bw W d) none := ⟨rfl, rfl, rfl, bw_le W d, fun k hk _ => bw_get W d k hk⟩
/-- The hours within a span, from one of them on. -/
def hrs (A : Int → Int × Int) (s : Int) (c : Nat) : List (Int × Int) := (List.range c).map fun i : Nat => A (s + (i : Int))
theorem hrs_succ (A : Int → Int × Int) (s : Int) (c : Nat) : hrs A s (c + 1) = hrs A s c ++ [A (s + c)] := by
  unfold hrs; rw [List.range_succ, List.map_append]; rfl
def nhr (lo hi : Int) : Nat := (cdiv hi 3600000 - (lo / 3600000 + 1)).toNat
def pcs (A : Int → Int × Int) (lo hi : Int) : List (Int × Int) := [(insL A lo, insH A lo), (insL A hi, insH A hi)] ++ hrs A (lo / 3600000 + 1) (nhr lo hi)
theorem pcs_len (A : Int → Int × Int) (lo hi : Int) : (pcs A lo hi).length = 2 + nhr lo hi := by simp [pcs, hrs]; omega
theorem nhr_lt {lo hi : Int} {c : Nat} (h : c < nhr lo hi) : (lo / 3600000 + 1 + c) * 3600000 < hi := by unfold nhr cdiv at h; omega
theorem nhr_ge {lo hi : Int} {c : Nat} (h : nhr lo hi ≤ c) : hi ≤ (lo / 3600000 + 1 + c) * 3600000 := by unfold nhr cdiv at h; omega
set_option maxHeartbeats 4000000 in
set_option maxRecDepth 100000 in
theorem pieces_stops (n : Nat) (hn : 1 ≤ n) (A : Int → Int × Int) (g : Nat) (q : Value) (b1 b2 b3 b4 : Nat) (lo hi : Int) (p : Nat → Prop) (w : World) (hA : ArcsOk A)
    (l0 : 0 ≤ lo) (l1 : lo ≤ 86400000) (h0 : 0 ≤ hi) (h1 : hi ≤ 86400000) (hp : ∀ k, p k → k < w.heap.size) (p1 : p b1) (p2 : p b2) (p3 : p b3) (p4 : p b4)
    (c1 : w.cell? ⟨b1, 0, none⟩ = some (.func (.func 216) #[] #[.pointer (some ⟨b4, 0, none⟩)])) (c2 : w.cell? ⟨b2, 0, none⟩ = some (.int .i64 lo)) (c3 : w.cell? ⟨b3, 0, none⟩ = some (.int .i64 hi))
    (c4 : w.cell? ⟨b4, 0, none⟩ = some (.func (.func g) #[] #[q]))
    (eg : ∀ args w, (callFunc g args).run Tryz.prog w = .ok (.enter g args) w)
    (hat : ∀ W (h : Int), Kept p w W → 0 ≤ h → h ≤ 24 → Calls Tryz.prog g #[.int .i64 h, q] W fun e w' => e = .returned (.agg #[.int .i64 ((A h).1), .int .i64 ((A h).2)]) ∧ ∃ d, w' = bw W d) :
    SeqStopsK Fence.wide n Tryz.prog 218 #[.pointer (some ⟨b1, 0, none⟩), .pointer (some ⟨b2, 0, none⟩), .pointer (some ⟨b3, 0, none⟩), .pointer (some ⟨b4, 0, none⟩)] (fun x : Int × Int => #[(.agg #[.int .i64 (x.1), .int .i64 (x.2)])]) (Kept p)
      (fun ys => ys = pcs A lo hi) (fun _ => True) (pcs A lo hi).length w := by
  intro l J Jx W hW hJ hJx hY hj
  have HI := Lib.hid (fun ms W (hk : Kept p w W) (m0 : 0 ≤ ms) (m1 : ms ≤ 86400000) => inc_instantC A g q b4 ms W hA m0 m1 eg (fun L h a b => hat (lay W L) h (hk.lay hp L) a b) (Nat.lt_of_lt_of_le (hp b4 p4) hk.size) ((hk.cell p4).trans c4))
  have HY := Lib.hid hY
  have HAT := Lib.hid hat
  have K0 : Kept p w W := Kept.of_below hW hp
  have e1 := (K0.cell (i := 0) p1).trans c1
  have e2 := (K0.cell (i := 0) p2).trans c2
  have e3 := (K0.cell (i := 0) p3).trans c3
  have e4 := (K0.cell (i := 0) p4).trans c4
  have eI : ∀ args w, (callFunc 216 args).run Tryz.prog w = .ok (.enter 216 args) w := enters_of Tryz.func216 (by kernel_rfl) rfl
  have HJ := Lib.hid hJ
  have HJ0 := Lib.hid hj
  have HK0 := Lib.hid K0
  clear hat hY hJ hJx hj K0
  refine callsIn_of_wp Tryz.func218 rfl trivial ?_ rfl
  simp only [Tryz.ntmps218, List.size_toArray, List.length_cons, List.length_nil, Nat.reduceAdd, Nat.reduceSub, Array.replicate_succ, Array.replicate_zero, List.push_toArray, List.append_toArray, List.nil_append, List.cons_append]
  gi_wp2_with fail
  refine ⟨trivial, (callsIn_wide.2 (HI.out lo W HK0.out l0 l1)).mono ?_⟩
  rintro e w' ⟨rfl, d, rfl⟩
  have J1 := HJ.out [] W (bw W d) none HJ0.out (bw_grown W d) (fun r e => by cases e)
  have K1 := HK0.out.bw hp d
  generalize bw W d = W1 at *
  clear e1 e2 e3 e4 HJ0 HK0
  obtain ⟨fn, tmps, assign, body, hy, hR⟩ := HY.out [] (insL A lo, insH A lo) W1 J1 (by rw [pcs_len]; simp only [List.length_nil]; omega)
  dsimp only at hy
  have f1 := (K1.cell (i := 0) p1).trans c1
  have f2 := (K1.cell (i := 0) p2).trans c2
  have f3 := (K1.cell (i := 0) p3).trans c3
  have f4 := (K1.cell (i := 0) p4).trans c4
  have HK1 := Lib.hid K1
  have HR1 := Lib.hid hR
  clear K1 J1 hR
  gi_wp2_with fail
  refine HR1.out.mono ?_
  rintro e W2 (⟨rfl, J2, k2⟩ | ⟨rfl, x2⟩)
  · have K2 := HK1.out.trans k2
    clear f1 f2 f3 f4 HK1 HR1 k2 hy
    have f1 := (K2.cell (i := 0) p1).trans c1
    have f3 := (K2.cell (i := 0) p3).trans c3
    have HK2 := Lib.hid K2
    have HJ2 := Lib.hid J2
    clear K2 J2
    gi_wp2_with fail
    refine ⟨trivial, (callsIn_wide.2 (HI.out hi W2 HK2.out h0 h1)).mono ?_⟩
    rintro e w' ⟨rfl, d, rfl⟩
    have J3 := HJ.out _ W2 (bw W2 d) none HJ2.out (bw_grown W2 d) (fun r e => by cases e)
    have K3 := HK2.out.bw hp d
    generalize bw W2 d = W3 at *
    clear f1 f3 HJ2 HK2
    obtain ⟨fn, tmps, assign, body, hy, hR⟩ := HY.out _ (insL A hi, insH A hi) W3 J3 (by rw [pcs_len]; simp only [List.nil_append, List.length_cons, List.length_nil]; omega)
    dsimp only at hy
    have HK3 := Lib.hid K3
    have HR3 := Lib.hid hR
    clear K3 J3 hR
    gi_wp2_with fail
    refine HR3.out.mono ?_
    rintro e W4 (⟨rfl, J4, k4⟩ | ⟨rfl, x4⟩)
    · have K4 := HK3.out.trans k4
      clear HK3 HR3 k4 hy
      have f2 := (K4.cell (i := 0) p2).trans c2
      have HK4 := Lib.hid K4
      have HJ4 := Lib.hid J4
      clear K4 J4
      gi_wp2_with fail
      gi_loopw [6] (fun vh wr => ∃ c : Nat, c ≤ nhr lo hi ∧ vh = .int .i64 (lo / 3600000 + 1 + c) ∧ J ([(insL A lo, insH A lo), (insL A hi, insH A hi)] ++ hrs A (lo / 3600000 + 1) c) wr ∧ Kept p w wr) (fun vh _ => nhr lo hi - (intOf vh - (lo / 3600000 + 1)).toNat)
      case atStart => exact ⟨0, Nat.zero_le _, by simp, by simpa [hrs] using HJ4.out, HK4.out⟩
      case round =>
        obtain ⟨c, hc, rfl, J5, K5⟩ := hrel
        have HJ5 := Lib.hid J5
        have HK5 := Lib.hid K5
        have g3 := (K5.cell (i := 0) p3).trans c3
        have g4 := (K5.cell (i := 0) p4).trans c4
        clear J5 K5 f2 HJ4 HK4
        by_cases hlt : c < nhr lo hi
        · have ht := nhr_lt hlt
          gi_wp2_with fail
          refine ⟨trivial, (callsIn_wide.2 (HAT.out wr _ HK5.out (by omega) (by omega))).mono ?_⟩
          rintro e w' ⟨rfl, d, rfl⟩
          have J6 := HJ.out _ wr (bw wr d) none HJ5.out (bw_grown wr d) (fun r e => by cases e)
          have K6 := HK5.out.bw hp d
          generalize bw wr d = W6 at *
          clear g3 g4 HJ5 HK5
          obtain ⟨fn, tmps, assign, body, hy, hR⟩ := HY.out _ (A (lo / 3600000 + 1 + c)) W6 J6 (by rw [pcs_len]; simp [hrs]; omega)
          try dsimp only at hy
          have HK6 := Lib.hid K6
          have HR6 := Lib.hid hR
          clear K6 J6 hR
          gi_wp2_with fail
          refine HR6.out.mono ?_
          rintro e W7 (⟨rfl, J7, k7⟩ | ⟨rfl, x7⟩)
          · have HK7 := Lib.hid (HK6.out.trans k7)
            have HJ7 := Lib.hid J7
            clear HK6 HR6 k7 hy J7
            gi_wp2_with fail
            go_roundw
            case rel => exact ⟨c + 1, by omega, by go_num, by rw [hrs_succ, ← List.append_assoc]; exact HJ7.out, HK7.out⟩
            case measure => simp [intOf]; omega
          · gi_wp2
            refine bodyPost_ret (results_none rfl _ _ _) rfl ?_
            exact ⟨⟨_, rfl⟩, .inr ⟨_, trivial, x7⟩⟩
        · have ht := nhr_ge (Nat.le_of_not_lt hlt)
          have hcn : c = nhr lo hi := by omega
          have HC := Lib.hid hcn
          clear hcn hlt
          have hw : IntKind.i64.wrap ((lo / 3600000 + 1 + (c : Int)) * 3600000) = (lo / 3600000 + 1 + (c : Int)) * 3600000 := IntWalk.i64_in _ (by unfold nhr cdiv at hc; omega)
          have hd : decide ((lo / 3600000 + 1 + (c : Int)) * 3600000 < hi) = false := by simp; omega
          gi_wp2
          go_end0
          exact ⟨⟨_, rfl⟩, .inl ⟨_, rfl, by unfold pcs; rw [← HC.out]; exact HJ5.out⟩⟩
    · gi_wp2
      refine bodyPost_ret (results_none rfl _ _ _) rfl ?_
      exact ⟨⟨_, rfl⟩, .inr ⟨_, trivial, x4⟩⟩
  · gi_wp2
    refine ⟨fun _ h => (by cases h), ?_⟩
    gi_wp2
    refine bodyPost_ret (results_none rfl _ _ _) rfl ?_
    exact ⟨⟨_, rfl⟩, .inr ⟨_, trivial, x2⟩⟩
end Go.Proofs.YtlkphcjlgbimkaaGreat

/- Contracts and plain laws, several texts in one: Inc1; Pg4; Pg5; Rf1; Rf2; Rf3 -/
import Derived.Test.YtnnmfdeeicpdlaaGreatProg
import Derived.WalkKit
import Derived.WalkSpells
import Derived.WalkLawsBesides
import Derived.Lib.Hide
import Derived.BigQuiet
import Derived.Deep.RegionWith
import Derived.Maps.Own
import Derived.RangeFuncNested
import Derived.RangeFuncBound
import Derived.RangeFuncCalls
import Derived.RangeFuncLeaves
import Derived.Shelf.Abstract
import Derived.Shelf.RegionOpen
import Derived.OwnWalkIn
import Derived.TacticsInMore
import Derived.LoopNIn
import Derived.LoopIn
import Derived.Test.YtnnmfdeeicpdlaaGreatSAA
import Derived.Test.YtnnmfdeeicpdlaaGreatSAD
import Derived.Test.YtnnmfdeeicpdlaaGreatSAF
import Derived.Test.YtnnmfdeeicpdlaaGreatSAJ
import Derived.Test.YtnnmfdeeicpdlaaGreatSAK
/- Contracts of package increments: Linear, Increment, and their references. -/
namespace Go.Proofs.YtnnmfdeeicpdlaaGreat
set_option maxHeartbeats 1000000
open Go.RowKit

theorem mul_bd {x k : Int} (M : Int) (h1 : -M ≤ x) (h2 : x ≤ M) (hk : 0 ≤ k) : -(M * k) ≤ x * k ∧ x * k ≤ M * k := by
  have := Int.mul_le_mul_of_nonneg_right h1 hk
  have := Int.mul_le_mul_of_nonneg_right h2 hk
  rw [Int.neg_mul] at *
  omega

def linLo (x0 x1 num den : Int) : Int := (x0 * (den - num) + x1 * num) / den
def linHi (y0 y1 num den : Int) : Int := cdiv (y0 * (den - num) + y1 * num) den
structure LinOk (x0 y0 x1 y1 num den : Int) : Prop where
  a0 : -1099511627776 ≤ x0
  a1 : x0 ≤ 1099511627776
  b0 : -1099511627776 ≤ y0
  b1 : y0 ≤ 1099511627776
  c0 : -1099511627776 ≤ x1
  c1 : x1 ≤ 1099511627776
  d0 : -1099511627776 ≤ y1
  d1 : y1 ≤ 1099511627776
  n0 : 0 ≤ num
  n1 : num ≤ den
  m0 : 1 ≤ den
  m1 : den ≤ 4194304
structure LinBd (x0 y0 x1 y1 num den : Int) : Prop where
  a0 : -4611686018427387904 ≤ x0 * (den - num)
  a1 : x0 * (den - num) ≤ 4611686018427387904
  b0 : -4611686018427387904 ≤ y0 * (den - num)
  b1 : y0 * (den - num) ≤ 4611686018427387904
  c0 : -4611686018427387904 ≤ x1 * num
  c1 : x1 * num ≤ 4611686018427387904
  d0 : -4611686018427387904 ≤ y1 * num
  d1 : y1 * num ≤ 4611686018427387904
  s0 : -4611686018427387904 ≤ x0 * (den - num) + x1 * num
  s1 : x0 * (den - num) + x1 * num ≤ 4611686018427387904
  t0 : -4611686018427387904 ≤ y0 * (den - num) + y1 * num
  t1 : y0 * (den - num) + y1 * num ≤ 4611686018427387904
theorem linBd {x0 y0 x1 y1 num den : Int} (h : LinOk x0 y0 x1 y1 num den) : LinBd x0 y0 x1 y1 num den := by
  obtain ⟨a0, a1, b0, b1, c0, c1, d0, d1, n0, n1, m0, m1⟩ := h
  have p := mul_bd (x := x0) (k := den - num) 1099511627776 a0 a1 (by omega)
  have q := mul_bd (x := y0) (k := den - num) 1099511627776 b0 b1 (by omega)
  have r := mul_bd (x := x1) (k := num) 1099511627776 c0 c1 (by omega)
  have s := mul_bd (x := y1) (k := num) 1099511627776 d0 d1 (by omega)
  constructor <;> omega

theorem inc_floor (a b : Int) (w : World) (hb : 1 ≤ b) (h1 : -9223372036854775807 ≤ a) (h2 : a ≤ 9223372036854775807) :
    Calls Tryz.prog 357 #[.int .i64 a, .int .i64 b] w fun e w' => e = .returned (.int .i64 (a / b)) ∧ w' = w := by
  go_enter Tryz.func357, Tryz.ntmps357
  go_wp2
  · go_ret
    refine ⟨ret_int ?_, rfl⟩
    rw [IntWalk.wrap64_in]
    · exact floor_neg hb ‹_›
    · rw [floor_neg hb ‹_›]; have := ediv_bd hb 9223372036854775807 (by decide) h1 h2; omega
  · go_ret
    exact ⟨ret_int (floor_pos hb ‹_›), rfl⟩
theorem inc_ceil (a b : Int) (w : World) (hb : 1 ≤ b) (h1 : -9223372036854775807 ≤ a) (h2 : a ≤ 9223372036854775807) :
    Calls Tryz.prog 346 #[.int .i64 a, .int .i64 b] w fun e w' => e = .returned (.int .i64 (cdiv a b)) ∧ w' = w := by
  have h3 := ediv_bd (a := -a) hb 9223372036854775807 (by decide) (by omega) (by omega)
  go_enter Tryz.func346, Tryz.ntmps346
  go_wp2_with (go_at_call 357; refine (inc_floor _ _ _ (by omega) (by omega) (by omega)).mono ?_; rintro e w' ⟨rfl, rfl⟩)
  go_ret
  exact ⟨rfl, rfl⟩

theorem inc_linear (x0 y0 x1 y1 num den : Int) (w : World) (h : LinOk x0 y0 x1 y1 num den) :
    Calls Tryz.prog 355 #[(.agg #[.int .i64 (x0), .int .i64 (y0)]), (.agg #[.int .i64 (x1), .int .i64 (y1)]), .int .i64 num, .int .i64 den] w fun e w' => e = .returned (.agg #[.int .i64 (linLo x0 x1 num den), .int .i64 (linHi y0 y1 num den)]) ∧ ∃ d, w' = bw w d := by
  obtain ⟨q1, q2, q3, q4, q5, q6, q7, q8, q9, q10, q11, q12⟩ := linBd h
  obtain ⟨a0, a1, b0, b1, c0, c1, d0, d1, n0, n1, m0, m1⟩ := h
  refine lay_start ?_
  go_enter Tryz.func355, Tryz.ntmps355
  go_wp2_with fail
  refine region_bw_tail 27 (by kernel_rfl) (by kernel_rfl) ?_
  simp only [List.take_succ_cons, List.take_zero, List.drop_succ_cons, List.drop_zero]
  repeat (go_big_quiet_step ((first | (go_at_call 357; exact bqs (inc_floor _ _ _ (by omega) (by omega) (by omega)) ⟨_, rfl⟩) | (go_at_call 346; exact bqs (inc_ceil _ _ _ (by omega) (by omega) (by omega)) ⟨_, rfl⟩))))
  refine wpQuiet_nil ?_
  rintro w' ⟨d, rfl⟩
  go_wp2
  exact bodyPost_ret (v := (.agg #[.int .i64 (linLo x0 x1 num den), .int .i64 (linHi y0 y1 num den)])) (by simp [results, Tryz.results355, go_sem, linLo, linHi]) rfl ⟨rfl, lay_ex _ _⟩

theorem ref14_Linear (x0 y0 x1 y1 num den : Int) (w : World) (h : LinOk x0 y0 x1 y1 num den) :
    Calls Tryz.prog 342 #[(.agg #[.int .i64 (x0), .int .i64 (y0)]), (.agg #[.int .i64 (x1), .int .i64 (y1)]), .int .i64 num, .int .i64 den] w fun e w' => e = .returned (.agg #[.int .i64 (linLo x0 x1 num den), .int .i64 (linHi y0 y1 num den)]) ∧ ∃ d, w' = bw w d := by
  obtain ⟨q1, q2, q3, q4, q5, q6, q7, q8, q9, q10, q11, q12⟩ := linBd h
  obtain ⟨a0, a1, b0, b1, c0, c1, d0, d1, n0, n1, m0, m1⟩ := h
  refine lay_start ?_
  go_enter Tryz.func342, Tryz.ntmps342
  go_wp2_with fail
  refine region_bw_tail 27 (by kernel_rfl) (by kernel_rfl) ?_
  simp only [List.take_succ_cons, List.take_zero, List.drop_succ_cons, List.drop_zero]
  repeat (go_big_quiet_step ((first | (go_at_call 206; exact bqs (ref05_Floor _ _ _ (by omega) (by omega) (by omega)) ⟨_, rfl⟩) | (go_at_call 311; exact bqs (ref05_Ceil _ _ _ (by omega) (by omega) (by omega)) ⟨_, rfl⟩))))
  refine wpQuiet_nil ?_
  rintro w' ⟨d, rfl⟩
  go_wp2
  exact bodyPost_ret (v := (.agg #[.int .i64 (linLo x0 x1 num den), .int .i64 (linHi y0 y1 num den)])) (by simp [results, Tryz.results342, go_sem, linLo, linHi]) rfl ⟨rfl, lay_ex _ _⟩

end Go.Proofs.YtnnmfdeeicpdlaaGreat
/- The first day of 2000; a page of one track. -/
namespace Go.Proofs.YtnnmfdeeicpdlaaGreat
set_option maxHeartbeats 400000
open Go.RowKit

theorem cal0_right (w : World) : Calls Tryz.prog 219 #[.int .i64 2000, .int .i64 1] w fun e w' => e = .returned (.bool true) ∧ w' = w := by
  go_enter Tryz.func219, Tryz.ntmps219
  go_wp2
  go_ret
  exact ⟨rfl, rfl⟩
theorem cal0_before (w : World) : Calls Tryz.prog 221 #[.int .i64 2000] w fun e w' => e = .returned (.int .i64 730119) ∧ w' = w := by
  go_enter Tryz.func221, Tryz.ntmps221
  go_wp2
  go_ret
  exact ⟨rfl, rfl⟩
theorem cal0_lengths (w : World) : Calls Tryz.prog 262 #[] w fun e w' => e = .returned (.agg #[.int .i64 31, .int .i64 28, .int .i64 31, .int .i64 30, .int .i64 31, .int .i64 30, .int .i64 31, .int .i64 31, .int .i64 30, .int .i64 31, .int .i64 30, .int .i64 31]) ∧ ∃ d, w' = bw w d := by
  refine lay_start ?_
  go_enter Tryz.func262, Tryz.ntmps262
  go_wp2
  exact bodyPost_ret (v := .agg #[.int .i64 31, .int .i64 28, .int .i64 31, .int .i64 30, .int .i64 31, .int .i64 30, .int .i64 31, .int .i64 31, .int .i64 30, .int .i64 31, .int .i64 30, .int .i64 31]) (by simp [results, Tryz.results262, go_sem]) rfl ⟨rfl, lay_ex _ _⟩
theorem cal0_days (w : World) : Calls Tryz.prog 220 #[.int .i64 2000, .int .i64 1] w fun e w' => e = .returned (.int .i64 31) ∧ ∃ d, w' = bw w d := by
  have i0 : ∀ w, (Instr.index 252 (.agg #[.int .i64 31, .int .i64 28, .int .i64 31, .int .i64 30, .int .i64 31, .int .i64 30, .int .i64 31, .int .i64 31, .int .i64 30, .int .i64 31, .int .i64 30, .int .i64 31]) (.int .i64 0)).run Tryz.prog w = .ok (.int .i64 31) w := fun _ => by kernel_rfl
  refine lay_start ?_
  go_enter Tryz.func220, Tryz.ntmps220
  go_wp2_with (go_at_call 262; refine (cal0_lengths _).mono ?_; rintro e w' ⟨rfl, d, rfl⟩)
  go_ret
  exact ⟨rfl, lay_ex _ _⟩
theorem cal0_Valid (w : World) : Calls Tryz.prog 161 #[.agg #[.int .i64 2000, .int .i64 1, .int .i64 1]] w fun e w' => e = .returned (.bool true) ∧ ∃ d, w' = bw w d := by
  refine lay_start ?_
  go_enter Tryz.func161, Tryz.ntmps161
  go_wp2_with fail
  refine region_bw (by kernel_rfl) (by kernel_rfl) ?_
  repeat (go_big_quiet_step ((first | (go_at_call 219; exact bqs (cal0_right _) ⟨_, rfl⟩) | (go_at_call 220; exact bq (cal0_days _) (fun d => lay_join _ _ _ d)))))
  refine wpQuiet_nil ?_
  rintro w' ⟨d, rfl⟩
  rw [lay_bw]
  go_wp2
  go_ret
  exact ⟨rfl, lay_ex _ _⟩
theorem cal0_dayOfYear (w : World) : Calls Tryz.prog 222 #[.agg #[.int .i64 2000, .int .i64 1, .int .i64 1]] w fun e w' => e = .returned (.int .i64 1) ∧ ∃ d, w' = bw w d := by
  refine lay_start ?_
  go_enter Tryz.func222, Tryz.ntmps222
  go_wp2_with fail
  refine wp_loop_rounds 1 ?_
  rw [rounds_succ]
  go_wp2
  go_ret
  exact ⟨rfl, lay_ex _ _⟩
theorem cal0_number (w : World) : Calls Tryz.prog 162 #[.agg #[.int .i64 2000, .int .i64 1, .int .i64 1]] w fun e w' => e = .returned (.int .i64 0) ∧ ∃ d, w' = bw w d := by
  refine lay_start ?_
  go_enter Tryz.func162, Tryz.ntmps162
  go_wp2_with fail
  refine region_bw (by kernel_rfl) (by kernel_rfl) ?_
  repeat (go_big_quiet_step ((first | (go_at_call 221; exact bqs (cal0_before _) ⟨_, rfl⟩) | (go_at_call 222; exact bq (cal0_dayOfYear _) (fun d => lay_join _ _ _ d)))))
  refine wpQuiet_nil ?_
  rintro w' ⟨d, rfl⟩
  rw [lay_bw]
  go_wp2
  go_ret
  exact ⟨rfl, lay_ex _ _⟩
theorem cal0_Number (w : World) : Calls Tryz.prog 69 #[.agg #[.int .i64 2000, .int .i64 1, .int .i64 1]] w fun e w' => e = .returned (.tuple #[.int .i64 0, .int .i64 0]) ∧ ∃ d, w' = bw w d := by
  refine lay_start ?_
  go_enter Tryz.func69, Tryz.ntmps69
  go_wp2_with (first | (go_at_call 161; refine (cal0_Valid _).mono ?_; rintro e w' ⟨rfl, d, rfl⟩) | (go_at_call 162; refine (cal0_number _).mono ?_; rintro e w' ⟨rfl, d, rfl⟩))
  go_ret2
  exact ⟨rfl, lay_ex _ _⟩
end Go.Proofs.YtnnmfdeeicpdlaaGreat
/- A page of one track is valid just if the track is. -/
namespace Go.Proofs.YtnnmfdeeicpdlaaGreat
set_option maxHeartbeats 2000000
set_option maxRecDepth 100000
open Go.RowKit

theorem map_empty {P : Program} {k : TypeId} {R : Value → Option (DataW Unit × List MemPlace)} {W : World} {b : Nat} (h : W.heap[b]? = some (.map #[] 0)) : W.ownsMap P k R b 0 (.map []) := by
  obtain ⟨es, clock, hb, F, hs, hD⟩ := World.ownsMap_made W P k R
  have e : (W.alloc (.map #[] 0)).heap[W.heap.size]? = some (.map #[] 0) := by show (W.heap.push _)[_]? = _; simp
  rw [e] at hb
  simp only [Option.some.injEq, Obj.map.injEq] at hb
  obtain ⟨rfl, rfl⟩ := hb
  exact ⟨#[], 0, h, F, hs, hD⟩
theorem zero_bool0 (w : World) : (zeroValue 4).run Tryz.prog w = .ok (.bool false) w := by kernel_rfl
theorem map_type : Tryz.prog.underlying 189 = some (.map 9 4) := by kernel_rfl
theorem bool_of {v : Value} {x : Bool} {ps : List MemPlace} (h : plainElem (H := Unit) Tryz.prog 4 v = some (.lit (.bool x), ps)) : v = .bool x := by
  unfold plainElem at h
  rw [Tryz.underlying4] at h
  cases v <;> simp at h
  rw [h.1]
theorem look_none {W : World} {b : Nat} (h : W.heap[b]? = some (.map #[] 0)) {s : ByteArray} (hs : s.size ≤ maxLen) : (Instr.lookup 189 (.map (some b)) (.string s) false).run Tryz.prog W = .ok (.bool false) W := by
  obtain ⟨v, ps, hrun, hv⟩ := (map_empty (P := Tryz.prog) (k := 9) (R := plainElem Tryz.prog 4) h).lookup (Maps.string_keyed Tryz.underlying9) map_type (zero_bool0 W) (plainElem_bool Tryz.underlying4 false) (WideMaps.keyOf_string_mk (P := Tryz.prog) Tryz.underlying9 hs)
  have e : DataW.atKey (H := Unit) (.map []) (.string s.data.toList) (.lit (.bool false)) = .lit (.bool false) := rfl
  rw [e] at hv
  rw [hrun, bool_of hv]
theorem put_first {W : World} {b : Nat} (h : W.heap[b]? = some (.map #[] 0)) {s : ByteArray} (hs : s.size ≤ maxLen) {w0 : World} (hb : Below w0.heap.size w0 W) (hB : w0.heap.size ≤ b) :
    ∃ d, (Instr.mapUpdate 189 (.map (some b)) (.string s) (.bool true)).run Tryz.prog W = .ok () (bw w0 d) := by
  obtain ⟨w', hrun, _, hg⟩ := (map_empty (P := Tryz.prog) (k := 9) (R := plainElem Tryz.prog 4) h).update (Maps.string_keyed Tryz.underlying9) map_type (by decide) (WideMaps.keyOf_string_mk (P := Tryz.prog) Tryz.underlying9 hs) (plainElem_bool Tryz.underlying4 true)
  obtain ⟨d, hd⟩ := bw_of (hb.grown hg hb.size (fun k e => by cases e; exact hB))
  exact ⟨d, by rw [hrun, hd]⟩
theorem page_Valid_one (v : Value) (t : TrkV) (b : Nat) (w : World) (hv : Trk w v t) (hb : b < w.heap.size) (hc : ∀ c, v = .agg c → ∀ i, i < 6 → w.cell? ⟨b, i, none⟩ = c[i]?) :
    Calls Tryz.prog 65 #[.agg #[.int .i64 2000, .int .i64 1, .int .i64 1, .slice (some ⟨b, 0, none⟩) 1 1]] w fun e w' => e = .returned (.bool (trkB t)) ∧ ∃ d, w' = bw w d := by
  have HV := Lib.hid hv
  obtain ⟨vg, vd, rfl, hs, hg, hd, hp, hq, hr⟩ := hv
  obtain ⟨s, gs, ds, p, q, r⟩ := t
  simp only at hs hg hd hp hq hr HV ⊢
  obtain ⟨ag, cg, rfl, g1, -, -⟩ := hg
  obtain ⟨ad, cd, rfl, d1, -, -⟩ := hd
  have c0 := hc _ rfl 0 (by decide)
  have c1 := hc _ rfl 1 (by decide)
  have c2 := hc _ rfl 2 (by decide)
  have c3 := hc _ rfl 3 (by decide)
  have c4 := hc _ rfl 4 (by decide)
  have c5 := hc _ rfl 5 (by decide)
  simp at c0 c1 c2 c3 c4 c5
  obtain ⟨T, hT⟩ : ∃ T, T = trkB ⟨s, gs, ds, p, q, r⟩ := ⟨_, rfl⟩
  have VT := fun L => page_validTrack _ _ (lay w L) (HV.out.lay L)
  rw [← hT] at VT
  have HVT := Lib.hid VT
  rw [← hT]
  clear VT hT
  have hmm := @run_makeMap Tryz.prog
  clear hc hp hq hr
  refine lay_start ?_
  go_enter Tryz.func65, Tryz.ntmps65
  go_wp2_with (go_at_call 69; refine (cal0_Number _).mono ?_; rintro e w' ⟨rfl, d, rfl⟩)
  refine wp_loop_rounds 2 ?_
  rw [rounds_succ]
  go_wp2_with fail
  refine (HVT.out _).mono ?_
  rintro e w' ⟨rfl, d2, rfl⟩
  have hlk : (Instr.lookup 189 (.map (some (posn w [d.n, 1]))) (.string s) false).run Tryz.prog (lay w [.inr d2, .inl (.cells #[.string s, .slice ag gs.length cg, .slice ad ds.length cd, .int .i64 p, .int .i64 q, .int .i64 r] 182), .inl (.map #[] 0), .inr d, .inl (.cells #[.int .i64 2000, .int .i64 1, .int .i64 1, .slice (some ⟨b, 0, none⟩) 1 1] 108)]) = .ok (.bool false) _ := look_none (by exact lay_get w _ 2 _ rfl) hs
  obtain ⟨e2, hup⟩ : ∃ e2, (Instr.mapUpdate 189 (.map (some (posn w [d.n, 1]))) (.string s) (.bool true)).run Tryz.prog (lay w [.inr d2, .inl (.cells #[.string s, .slice ag gs.length cg, .slice ad ds.length cd, .int .i64 p, .int .i64 q, .int .i64 r] 182), .inl (.map #[] 0), .inr d, .inl (.cells #[.int .i64 2000, .int .i64 1, .int .i64 1, .slice (some ⟨b, 0, none⟩) 1 1] 108)]) = .ok () (lay w [.inr e2]) :=
    put_first (by exact lay_get w _ 2 _ rfl) hs (lay_extends w _) (Nat.le_add_right _ _)
  cases T
  · go_wp2
    go_ret
    exact ⟨rfl, lay_ex _ _⟩
  · go_wp2_with fail
    rw [rounds_succ]
    go_wp2
    go_ret
    exact ⟨rfl, lay_ex _ _⟩
theorem inc_valid (v : Value) (t : TrkV) (w : World) (hv : Trk w v t) :
    Calls Tryz.prog 325 #[v] w fun e w' => e = .returned (.bool (trkB t)) ∧ ∃ d, w' = bw w d := by
  have HP := Lib.hid (fun b L hb hc => page_Valid_one v t b (lay w L) (hv.lay L) hb hc)
  obtain ⟨vg, vd, rfl, -⟩ := hv
  refine lay_start ?_
  go_enter Tryz.func325, Tryz.ntmps325
  go_wp2_with (go_at_call 65; refine (HP.out _ _ (by rw [lay_size]; unfold posn shp; simp [shp]) (by intro c hc i hi; injection hc with hc; subst hc; rw [lay_cell _ _ _ _ (by simp) rfl rfl]; rfl)).mono ?_; rintro e w' ⟨rfl, d, rfl⟩)
  go_ret
  exact ⟨rfl, lay_ex _ _⟩
end Go.Proofs.YtnnmfdeeicpdlaaGreat
/- Increments at an instant: the functions that pieces hands on. -/
namespace Go.Proofs.YtnnmfdeeicpdlaaGreat
set_option maxHeartbeats 2000000
open Go.RowKit

theorem inc_around (n : Int) (w : World) (h1 : -1099511627776 ≤ n) (h2 : n ≤ 1099511627776) :
    Calls Tryz.prog 329 #[.int .i64 n] w fun e w' => e = .returned (.agg #[.int .i64 (n - 50), .int .i64 (n + 50)]) ∧ ∃ d, w' = bw w d := by
  refine lay_start ?_
  go_enter Tryz.func329, Tryz.ntmps329
  go_wp2
  exact bodyPost_ret (v := (.agg #[.int .i64 (n - 50), .int .i64 (n + 50)])) (by simp [results, Tryz.results329, go_sem]) rfl ⟨rfl, lay_ex _ _⟩
def insL (A : Int → Int × Int) (ms : Int) : Int := if ms % 3600000 = 0 then (A (ms / 3600000)).1 else linLo (A (ms / 3600000)).1 (A (ms / 3600000 + 1)).1 (ms % 3600000) 3600000
def insH (A : Int → Int × Int) (ms : Int) : Int := if ms % 3600000 = 0 then (A (ms / 3600000)).2 else linHi (A (ms / 3600000)).2 (A (ms / 3600000 + 1)).2 (ms % 3600000) 3600000
structure ArcsOk (A : Int → Int × Int) : Prop where
  lo : ∀ h, -1099511627776 ≤ (A h).1
  hi : ∀ h, (A h).2 ≤ 1099511627776
  le : ∀ h, (A h).1 ≤ (A h).2
theorem inc_instantC (A : Int → Int × Int) (g : Nat) (q : Value) (b : Nat) (ms : Int) (w : World) (hA : ArcsOk A) (h0 : 0 ≤ ms) (h1 : ms ≤ 86400000)
    (eg : ∀ args w, (callFunc g args).run Tryz.prog w = .ok (.enter g args) w)
    (hat : ∀ (L : List (Obj ⊕ Ext)) (h : Int), 0 ≤ h → h ≤ 24 → Calls Tryz.prog g #[.int .i64 h, q] (lay w L) fun e w' => e = .returned (.agg #[.int .i64 ((A h).1), .int .i64 ((A h).2)]) ∧ ∃ d, w' = bw (lay w L) d)
    (hb : b < w.heap.size) (hc : w.cell? ⟨b, 0, none⟩ = some (.func (.func g) #[] #[q])) :
    Calls Tryz.prog 354 #[.int .i64 ms, .pointer (some ⟨b, 0, none⟩)] w fun e w' => e = .returned (.agg #[.int .i64 (insL A ms), .int .i64 (insH A ms)]) ∧ ∃ d, w' = bw w d := by
  have HA := Lib.hid hat
  clear hat
  by_cases hr : ms % 3600000 = 0
  · have e : insL A ms = (A (ms / 3600000)).1 ∧ insH A ms = (A (ms / 3600000)).2 := by unfold insL insH; rw [if_pos hr, if_pos hr]; exact ⟨rfl, rfl⟩
    rw [e.1, e.2]
    have hq : (ms % 3600000 == 0) = true := beq_iff_eq.2 hr
    have b1 : 0 ≤ ms / 3600000 := by omega
    have b2 : ms / 3600000 ≤ 24 := by omega
    clear e hr
    refine lay_start ?_
    go_enter Tryz.func354, Tryz.ntmps354
    go_wp2_with fail
    refine (HA.out _ _ b1 b2).mono ?_
    rintro e w' ⟨rfl, d, rfl⟩
    go_wp2
    exact bodyPost_ret (v := (.agg #[.int .i64 ((A (ms / 3600000)).1), .int .i64 ((A (ms / 3600000)).2)])) (by simp [results, Tryz.results354, go_sem]) rfl ⟨rfl, lay_ex _ _⟩
  · have e : insL A ms = linLo (A (ms / 3600000)).1 (A (ms / 3600000 + 1)).1 (ms % 3600000) 3600000 ∧ insH A ms = linHi (A (ms / 3600000)).2 (A (ms / 3600000 + 1)).2 (ms % 3600000) 3600000 := by unfold insL insH; rw [if_neg hr, if_neg hr]; exact ⟨rfl, rfl⟩
    rw [e.1, e.2]
    have hq : (ms % 3600000 == 0) = false := beq_eq_false_iff_ne.2 hr
    have b1 : 0 ≤ ms / 3600000 := by omega
    have b2 : ms / 3600000 + 1 ≤ 24 := by omega
    have hw1 : IntKind.i64.wrap (ms / 3600000 + 1) = ms / 3600000 + 1 := IntWalk.i64_in _ (by omega)
    have r0 : 0 ≤ ms % 3600000 ∧ ms % 3600000 < 3600000 := by omega
    have LK : LinOk (A (ms / 3600000)).1 (A (ms / 3600000)).2 (A (ms / 3600000 + 1)).1 (A (ms / 3600000 + 1)).2 (ms % 3600000) 3600000 := by
      have := hA.lo (ms / 3600000); have := hA.hi (ms / 3600000); have := hA.le (ms / 3600000)
      have := hA.lo (ms / 3600000 + 1); have := hA.hi (ms / 3600000 + 1); have := hA.le (ms / 3600000 + 1)
      constructor <;> omega
    have HL := Lib.hid (fun W => inc_linear _ _ _ _ _ _ W LK)
    have HA1 := Lib.hid (fun L => HA.out L (ms / 3600000) b1 (by omega))
    have HA2 := Lib.hid (fun L => HA.out L (ms / 3600000 + 1) (by omega) b2)
    clear e hr LK
    refine lay_start ?_
    go_enter Tryz.func354, Tryz.ntmps354
    go_wp2_with fail
    refine region_bw_tail 9 (by kernel_rfl) (by kernel_rfl) ?_
    simp only [List.take_succ_cons, List.take_zero, List.drop_succ_cons, List.drop_zero]
    repeat (go_big_quiet_step ((first | (with_reducible refine bq (HA1.out _) ?_; exact (fun d => lay_join _ _ _ d)) | (with_reducible refine bq (HA2.out _) ?_; exact (fun d => lay_join _ _ _ d)) | (go_at_call 355; with_reducible refine bq (HL.out _) ?_; exact (fun d => lay_join _ _ _ d)))))
    refine wpQuiet_nil ?_
    rintro w' ⟨d, rfl⟩
    rw [lay_bw]
    go_wp2
    exact bodyPost_ret (v := (.agg #[.int .i64 (linLo (A (ms / 3600000)).1 (A (ms / 3600000 + 1)).1 (ms % 3600000) 3600000), .int .i64 (linHi (A (ms / 3600000)).2 (A (ms / 3600000 + 1)).2 (ms % 3600000) 3600000)])) (by simp [results, Tryz.results354, go_sem]) rfl ⟨rfl, lay_ex _ _⟩
end Go.Proofs.YtnnmfdeeicpdlaaGreat
/- increments.pieces: the iterator's contract. -/
namespace Go.Proofs.YtnnmfdeeicpdlaaGreat
open Go.RowKit Go.Shelf
attribute [local go_sem] Oper.semAt_some

structure Kept (p : Nat → Prop) (A B : World) : Prop where
  size : A.heap.size ≤ B.heap.size
  same : ∀ k, p k → B.heap[k]? = A.heap[k]?
theorem Kept.refl (p : Nat → Prop) (A : World) : Kept p A A := ⟨Nat.le_refl _, fun _ _ => rfl⟩
theorem Kept.trans {p : Nat → Prop} {A B C : World} (h : Kept p A B) (k : Kept p B C) : Kept p A C := ⟨Nat.le_trans h.size k.size, fun i hi => (k.same i hi).trans (h.same i hi)⟩
theorem Kept.cell {p : Nat → Prop} {A B : World} (h : Kept p A B) {b i : Nat} (hb : p b) : B.cell? ⟨b, i, none⟩ = A.cell? ⟨b, i, none⟩ := by unfold World.cell?; rw [h.same b hb]
theorem Kept.of_below {p : Nat → Prop} {A B : World} (h : Below A.heap.size A B) (hp : ∀ k, p k → k < A.heap.size) : Kept p A B := ⟨h.size, fun k hk => h.block k (hp k hk)⟩
theorem Kept.bw {p : Nat → Prop} {A B : World} (h : Kept p A B) (hp : ∀ k, p k → k < A.heap.size) (d : Ext) : Kept p A (bw B d) :=
  h.trans (Kept.of_below (bw_below B d) fun k hk => Nat.lt_of_lt_of_le (hp k hk) h.size)
theorem Kept.lay {p : Nat → Prop} {A B : World} (h : Kept p A B) (hp : ∀ k, p k → k < A.heap.size) (L : List (Obj ⊕ Ext)) : Kept p A (lay B L) := by
  obtain ⟨d, hd⟩ := lay_ex B L
  rw [hd]; exact h.bw hp d
theorem bw_grown (W : World) (d : Ext) : W.grownBy (bw W d) none := ⟨rfl, rfl, rfl, bw_le W d, fun k hk _ => bw_get W d k hk⟩
def hrs (A : Int → Int × Int) (s : Int) (c : Nat) : List (Int × Int) := (List.range c).map fun i : Nat => A (s + (i : Int))
theorem hrs_succ (A : Int → Int × Int) (s : Int) (c : Nat) : hrs A s (c + 1) = hrs A s c ++ [A (s + c)] := by
  unfold hrs; rw [List.range_succ, List.map_append]; rfl
def nhr (lo hi : Int) : Nat := (cdiv hi 3600000 - (lo / 3600000 + 1)).toNat
def pcs (A : Int → Int × Int) (lo hi : Int) : List (Int × Int) := [(insL A lo, insH A lo), (insL A hi, insH A hi)] ++ hrs A (lo / 3600000 + 1) (nhr lo hi)
theorem pcs_len (A : Int → Int × Int) (lo hi : Int) : (pcs A lo hi).length = 2 + nhr lo hi := by simp [pcs, hrs]; omega
theorem nhr_lt {lo hi : Int} {c : Nat} (h : c < nhr lo hi) : (lo / 3600000 + 1 + c) * 3600000 < hi := by unfold nhr cdiv at h; omega
theorem nhr_ge {lo hi : Int} {c : Nat} (h : nhr lo hi ≤ c) : hi ≤ (lo / 3600000 + 1 + c) * 3600000 := by unfold nhr cdiv at h; omega
set_option maxHeartbeats 4000000 in
set_option maxRecDepth 100000 in
theorem pieces_stops (n : Nat) (hn : 1 ≤ n) (A : Int → Int × Int) (g : Nat) (q : Value) (b1 b2 b3 b4 : Nat) (lo hi : Int) (p : Nat → Prop) (w : World) (hA : ArcsOk A)
    (l0 : 0 ≤ lo) (l1 : lo ≤ 86400000) (h0 : 0 ≤ hi) (h1 : hi ≤ 86400000) (hp : ∀ k, p k → k < w.heap.size) (p1 : p b1) (p2 : p b2) (p3 : p b3) (p4 : p b4)
    (c1 : w.cell? ⟨b1, 0, none⟩ = some (.func (.func 354) #[] #[.pointer (some ⟨b4, 0, none⟩)])) (c2 : w.cell? ⟨b2, 0, none⟩ = some (.int .i64 lo)) (c3 : w.cell? ⟨b3, 0, none⟩ = some (.int .i64 hi))
    (c4 : w.cell? ⟨b4, 0, none⟩ = some (.func (.func g) #[] #[q]))
    (eg : ∀ args w, (callFunc g args).run Tryz.prog w = .ok (.enter g args) w)
    (hat : ∀ W (h : Int), Kept p w W → 0 ≤ h → h ≤ 24 → Calls Tryz.prog g #[.int .i64 h, q] W fun e w' => e = .returned (.agg #[.int .i64 ((A h).1), .int .i64 ((A h).2)]) ∧ ∃ d, w' = bw W d) :
    SeqStopsK Fence.wide n Tryz.prog 356 #[.pointer (some ⟨b1, 0, none⟩), .pointer (some ⟨b2, 0, none⟩), .pointer (some ⟨b3, 0, none⟩), .pointer (some ⟨b4, 0, none⟩)] (fun x : Int × Int => #[(.agg #[.int .i64 (x.1), .int .i64 (x.2)])]) (Kept p)
      (fun ys => ys = pcs A lo hi) (fun _ => True) (pcs A lo hi).length w := by
  intro l J Jx W hW hJ hJx hY hj
  have HI := Lib.hid (fun ms W (hk : Kept p w W) (m0 : 0 ≤ ms) (m1 : ms ≤ 86400000) => inc_instantC A g q b4 ms W hA m0 m1 eg (fun L h a b => hat (lay W L) h (hk.lay hp L) a b) (Nat.lt_of_lt_of_le (hp b4 p4) hk.size) ((hk.cell p4).trans c4))
  have HY := Lib.hid hY
  have HAT := Lib.hid hat
  have K0 : Kept p w W := Kept.of_below hW hp
  have e1 := (K0.cell (i := 0) p1).trans c1
  have e2 := (K0.cell (i := 0) p2).trans c2
  have e3 := (K0.cell (i := 0) p3).trans c3
  have e4 := (K0.cell (i := 0) p4).trans c4
  have eI : ∀ args w, (callFunc 354 args).run Tryz.prog w = .ok (.enter 354 args) w := enters_of Tryz.func354 (by kernel_rfl) rfl
  have HJ := Lib.hid hJ
  have HJ0 := Lib.hid hj
  have HK0 := Lib.hid K0
  clear hat hY hJ hJx hj K0
  refine callsIn_of_wp Tryz.func356 rfl trivial ?_ rfl
  simp only [Tryz.ntmps356, List.size_toArray, List.length_cons, List.length_nil, Nat.reduceAdd, Nat.reduceSub, Array.replicate_succ, Array.replicate_zero, List.push_toArray, List.append_toArray, List.nil_append, List.cons_append]
  gi_wp2_with fail
  refine ⟨trivial, (callsIn_wide.2 (HI.out lo W HK0.out l0 l1)).mono ?_⟩
  rintro e w' ⟨rfl, d, rfl⟩
  have J1 := HJ.out [] W (bw W d) none HJ0.out (bw_grown W d) (fun r e => by cases e)
  have K1 := HK0.out.bw hp d
  generalize bw W d = W1 at *
  clear e1 e2 e3 e4 HJ0 HK0
  obtain ⟨fn, tmps, assign, body, hy, hR⟩ := HY.out [] (insL A lo, insH A lo) W1 J1 (by rw [pcs_len]; simp only [List.length_nil]; omega)
  dsimp only at hy
  have f1 := (K1.cell (i := 0) p1).trans c1
  have f2 := (K1.cell (i := 0) p2).trans c2
  have f3 := (K1.cell (i := 0) p3).trans c3
  have f4 := (K1.cell (i := 0) p4).trans c4
  have HK1 := Lib.hid K1
  have HR1 := Lib.hid hR
  clear K1 J1 hR
  gi_wp2_with fail
  refine HR1.out.mono ?_
  rintro e W2 (⟨rfl, J2, k2⟩ | ⟨rfl, x2⟩)
  · have K2 := HK1.out.trans k2
    clear f1 f2 f3 f4 HK1 HR1 k2 hy
    have f1 := (K2.cell (i := 0) p1).trans c1
    have f3 := (K2.cell (i := 0) p3).trans c3
    have HK2 := Lib.hid K2
    have HJ2 := Lib.hid J2
    clear K2 J2
    gi_wp2_with fail
    refine ⟨trivial, (callsIn_wide.2 (HI.out hi W2 HK2.out h0 h1)).mono ?_⟩
    rintro e w' ⟨rfl, d, rfl⟩
    have J3 := HJ.out _ W2 (bw W2 d) none HJ2.out (bw_grown W2 d) (fun r e => by cases e)
    have K3 := HK2.out.bw hp d
    generalize bw W2 d = W3 at *
    clear f1 f3 HJ2 HK2
    obtain ⟨fn, tmps, assign, body, hy, hR⟩ := HY.out _ (insL A hi, insH A hi) W3 J3 (by rw [pcs_len]; simp only [List.nil_append, List.length_cons, List.length_nil]; omega)
    dsimp only at hy
    have HK3 := Lib.hid K3
    have HR3 := Lib.hid hR
    clear K3 J3 hR
    gi_wp2_with fail
    refine HR3.out.mono ?_
    rintro e W4 (⟨rfl, J4, k4⟩ | ⟨rfl, x4⟩)
    · have K4 := HK3.out.trans k4
      clear HK3 HR3 k4 hy
      have f2 := (K4.cell (i := 0) p2).trans c2
      have HK4 := Lib.hid K4
      have HJ4 := Lib.hid J4
      clear K4 J4
      gi_wp2_with fail
      gi_loopw [6] (fun vh wr => ∃ c : Nat, c ≤ nhr lo hi ∧ vh = .int .i64 (lo / 3600000 + 1 + c) ∧ J ([(insL A lo, insH A lo), (insL A hi, insH A hi)] ++ hrs A (lo / 3600000 + 1) c) wr ∧ Kept p w wr) (fun vh _ => nhr lo hi - (intOf vh - (lo / 3600000 + 1)).toNat)
      case atStart => exact ⟨0, Nat.zero_le _, by simp, by simpa [hrs] using HJ4.out, HK4.out⟩
      case round =>
        obtain ⟨c, hc, rfl, J5, K5⟩ := hrel
        have HJ5 := Lib.hid J5
        have HK5 := Lib.hid K5
        have g3 := (K5.cell (i := 0) p3).trans c3
        have g4 := (K5.cell (i := 0) p4).trans c4
        clear J5 K5 f2 HJ4 HK4
        by_cases hlt : c < nhr lo hi
        · have ht := nhr_lt hlt
          gi_wp2_with fail
          refine ⟨trivial, (callsIn_wide.2 (HAT.out wr _ HK5.out (by omega) (by omega))).mono ?_⟩
          rintro e w' ⟨rfl, d, rfl⟩
          have J6 := HJ.out _ wr (bw wr d) none HJ5.out (bw_grown wr d) (fun r e => by cases e)
          have K6 := HK5.out.bw hp d
          generalize bw wr d = W6 at *
          clear g3 g4 HJ5 HK5
          obtain ⟨fn, tmps, assign, body, hy, hR⟩ := HY.out _ (A (lo / 3600000 + 1 + c)) W6 J6 (by rw [pcs_len]; simp [hrs]; omega)
          try dsimp only at hy
          have HK6 := Lib.hid K6
          have HR6 := Lib.hid hR
          clear K6 J6 hR
          gi_wp2_with fail
          refine HR6.out.mono ?_
          rintro e W7 (⟨rfl, J7, k7⟩ | ⟨rfl, x7⟩)
          · have HK7 := Lib.hid (HK6.out.trans k7)
            have HJ7 := Lib.hid J7
            clear HK6 HR6 k7 hy J7
            gi_wp2_with fail
            go_roundw
            case rel => exact ⟨c + 1, by omega, by go_num, by rw [hrs_succ, ← List.append_assoc]; exact HJ7.out, HK7.out⟩
            case measure => simp [intOf]; omega
          · gi_wp2
            refine bodyPost_ret (results_none rfl _ _ _) rfl ?_
            exact ⟨⟨_, rfl⟩, .inr ⟨_, trivial, x7⟩⟩
        · have ht := nhr_ge (Nat.le_of_not_lt hlt)
          have hcn : c = nhr lo hi := by omega
          have HC := Lib.hid hcn
          clear hcn hlt
          have hw : IntKind.i64.wrap ((lo / 3600000 + 1 + (c : Int)) * 3600000) = (lo / 3600000 + 1 + (c : Int)) * 3600000 := IntWalk.i64_in _ (by unfold nhr cdiv at hc; omega)
          have hd : decide ((lo / 3600000 + 1 + (c : Int)) * 3600000 < hi) = false := by simp; omega
          gi_wp2
          go_end0
          exact ⟨⟨_, rfl⟩, .inl ⟨_, rfl, by unfold pcs; rw [← HC.out]; exact HJ5.out⟩⟩
    · gi_wp2
      refine bodyPost_ret (results_none rfl _ _ _) rfl ?_
      exact ⟨⟨_, rfl⟩, .inr ⟨_, trivial, x4⟩⟩
  · gi_wp2
    refine ⟨fun _ h => (by cases h), ?_⟩
    gi_wp2
    refine bodyPost_ret (results_none rfl _ _ _) rfl ?_
    exact ⟨⟨_, rfl⟩, .inr ⟨_, trivial, x2⟩⟩
end Go.Proofs.YtnnmfdeeicpdlaaGreat
/- increments.over: the iterator made, the loop over it. -/
namespace Go.Proofs.YtnnmfdeeicpdlaaGreat
set_option maxHeartbeats 4000000
open Go.RowKit Go.Shelf
attribute [local go_sem] Oper.semAt_some

@[local go_sem] theorem run_store_func {P : Program} {w : World} {a : Addr} {m : Mode} (f : Fn) (x y : Array Value) : (store a (.func f x y) m).run P w = stored P w a (.func f x y) m := run_store P w a _ m rfl
theorem inc_pieces0 (lo hi : Int) (g : Nat) (q : Value) (w : World) :
    Calls Tryz.prog 345 #[.int .i64 lo, .int .i64 hi, .func (.func g) #[] #[q]] (lay w []) fun e w' =>
      e = .returned (.func (.func 356) #[] #[.pointer (some ⟨posn w [1, 1, 1], 0, none⟩), .pointer (some ⟨posn w [], 0, none⟩), .pointer (some ⟨posn w [1], 0, none⟩), .pointer (some ⟨posn w [1, 1], 0, none⟩)]) ∧
      w' = lay w [.inl (.cells #[.func (.func 354) #[] #[.pointer (some ⟨posn w [1, 1], 0, none⟩)]] 76 (0, 0)), .inl (.cells #[.func (.func g) #[] #[q]] 76 (0, 0)), .inl (.cells #[.int .i64 hi] 3 (0, 0)), .inl (.cells #[.int .i64 lo] 3 (0, 0))] := by
  go_enter Tryz.func345, Tryz.ntmps345
  go_wp2
  go_ret
  exact ⟨rfl, rfl⟩
theorem posn_lay (w : World) (L : List (Obj ⊕ Ext)) (p : List Nat) : posn (lay w L) p = posn w (p ++ shp L) := by
  unfold posn; rw [lay_size]; unfold posn; simp; omega
theorem inc_pieces (lo hi : Int) (g : Nat) (q : Value) (w : World) (L : List (Obj ⊕ Ext)) :
    Calls Tryz.prog 345 #[.int .i64 lo, .int .i64 hi, .func (.func g) #[] #[q]] (lay w L) fun e w' =>
      e = .returned (.func (.func 356) #[] #[.pointer (some ⟨posn w (1 :: 1 :: 1 :: shp L), 0, none⟩), .pointer (some ⟨posn w (shp L), 0, none⟩), .pointer (some ⟨posn w (1 :: shp L), 0, none⟩), .pointer (some ⟨posn w (1 :: 1 :: shp L), 0, none⟩)]) ∧
      w' = lay w (.inl (.cells #[.func (.func 354) #[] #[.pointer (some ⟨posn w (1 :: 1 :: shp L), 0, none⟩)]] 76 (0, 0)) :: .inl (.cells #[.func (.func g) #[] #[q]] 76 (0, 0)) :: .inl (.cells #[.int .i64 hi] 3 (0, 0)) :: .inl (.cells #[.int .i64 lo] 3 (0, 0)) :: L) := by
  have h := inc_pieces0 lo hi g q (lay w L)
  simp only [posn_lay, ← lay_append, List.nil_append, List.cons_append] at h
  exact h

def hull2 (a b : Int × Int) : Int × Int := (min a.1 b.1, max a.2 b.2)
def hullL : List (Int × Int) → Int × Int
  | [] => (0, 0)
  | x :: l => l.foldl hull2 x
theorem hullL_snoc (l : List (Int × Int)) (x : Int × Int) (h : l ≠ []) : hullL (l ++ [x]) = hull2 (hullL l) x := by
  cases l with
  | nil => exact absurd rfl h
  | cons y l => simp [hullL, List.foldl_append]
theorem Kept.row {p : Nat → Prop} {W0 : World} (hp : ∀ k, p k → k < W0.heap.size) (W : World) (l : Nat) (o o' : Obj) (hl : W0.heap.size ≤ l) (_ : W.heap[l]? = some o) (_ : o.isCells = false) (_ : o.isWalk = false) : Kept p W (W.putObj l o') :=
  ⟨(grownBy_putObj' W l o').size, fun k hk => World.putObj_heap_other (by have := hp k hk; omega)⟩
theorem ownFrom_blk {β : Type} {B k : Nat} (hk : k < B) (f : β → Obj) : OwnFrom B (fun s (W : World) => W.heap[k]? = some (f s)) :=
  fun s X Y row hs hg hr => (hg.block k (Array.getElem?_eq_some_iff.1 hs).1 (fun e => by have := (hr k e.symm).1; omega)).trans hs
theorem cell_blk {W : World} {k i : Nat} {c : Array Value} {t : TypeId} {f : Nat × Nat} (h : W.heap[k]? = some (.cells c t f)) : W.cell? ⟨k, i, none⟩ = c[i]? := by
  unfold World.cell?; rw [h]; rfl
theorem froz_blk {W : World} {k i : Nat} {c : Array Value} {t : TypeId} (h : W.heap[k]? = some (.cells c t (0, 0))) : W.frozen? ⟨k, i, none⟩ = false := by
  unfold World.frozen?; rw [h]; rfl

theorem set_blk {W : World} {k i : Nat} {v : Value} {c : Array Value} {t : TypeId} {f : Nat × Nat} (h : W.heap[k]? = some (.cells c t f)) : (W.setCell ⟨k, i, none⟩ v).heap[k]? = some (.cells (c.setIfInBounds i v) t f) := by
  have hlt := (Array.getElem?_eq_some_iff.1 h).1
  have h' : W.heap[k] = .cells c t f := by simpa [Array.getElem?_eq_getElem hlt] using h
  show (W.heap.modify k _)[k]? = _
  rw [Array.getElem?_eq_getElem (by simpa using hlt), Array.getElem_modify_self, h']
  simp
theorem far_blk {W : World} {k b i : Nat} {v : Value} {o : Option Obj} (h : W.heap[k]? = o) (hk : k ≠ b) : (W.setCell ⟨b, i, none⟩ v).heap[k]? = o := (Below.heap_setCell W _ _ k hk).trans h
theorem Kept.set {p : Nat → Prop} {A B : World} (h : Kept p A B) {b i : Nat} {v : Value} (hb : ∀ k, p k → k ≠ b) : Kept p A (B.setCell ⟨b, i, none⟩ v) :=
  ⟨by simp only [World.setCell, Array.size_modify]; exact h.size, fun k hk => (Below.heap_setCell B _ _ k (hb k hk)).trans (h.same k hk)⟩
theorem kf_set {n : Nat} {A B : World} (h : KeepsFrom n A B) (b i : Nat) (v : Value) : KeepsFrom n A (B.setCell ⟨b, i, none⟩ v) := h.trans ((KeepsOthers.setCell _ _ _).from _)
def ovr (A : Int → Int × Int) (lo hi r : Int) : Int × Int :=
  if lo = hi ∧ lo % 3600000 = 0 then hullL (pcs A lo hi) else ((hullL (pcs A lo hi)).1 - cdiv (100 * r) 8, (hullL (pcs A lo hi)).2 + cdiv (100 * r) 8)
def Bnd (x : Int × Int) : Prop := -1099511627776 ≤ x.1 ∧ x.1 ≤ x.2 ∧ x.2 ≤ 1099511627776
theorem Bnd.hull {x y : Int × Int} (h : Bnd x) (k : Bnd y) : Bnd (hull2 x y) := by unfold Bnd hull2 at *; dsimp only at *; omega
theorem Bnd.fold (l : List (Int × Int)) : ∀ x, Bnd x → (∀ y ∈ l, Bnd y) → Bnd (l.foldl hull2 x) := by
  induction l with
  | nil => exact fun x h _ => h
  | cons y l ih => exact fun x h k => ih _ (h.hull (k y (List.mem_cons_self ..))) (fun z hz => k z (List.mem_cons_of_mem _ hz))
theorem Bnd.lst {l : List (Int × Int)} (h : ∀ y ∈ l, Bnd y) : Bnd (hullL l) := by
  cases l with
  | nil => exact ⟨by decide, by decide, by decide⟩
  | cons y l => exact Bnd.fold l y (h y (List.mem_cons_self ..)) (fun z hz => h z (List.mem_cons_of_mem _ hz))
theorem lin_ge {x0 x1 n B : Int} (h0 : B ≤ x0) (h1 : B ≤ x1) (n0 : 0 ≤ n) (n1 : n ≤ 3600000) : B ≤ (x0 * (3600000 - n) + x1 * n) / 3600000 := by
  have a := Int.mul_le_mul_of_nonneg_right h0 (show 0 ≤ 3600000 - n by omega)
  have b := Int.mul_le_mul_of_nonneg_right h1 n0
  rw [Int.mul_sub] at a
  omega
theorem lin_le {x0 x1 n B : Int} (h0 : x0 ≤ B) (h1 : x1 ≤ B) (n0 : 0 ≤ n) (n1 : n ≤ 3600000) : cdiv (x0 * (3600000 - n) + x1 * n) 3600000 ≤ B := by
  have a := Int.mul_le_mul_of_nonneg_right h0 (show 0 ≤ 3600000 - n by omega)
  have b := Int.mul_le_mul_of_nonneg_right h1 n0
  rw [Int.mul_sub B] at a
  unfold cdiv
  omega
theorem lin_mono {x0 x1 y0 y1 n : Int} (h0 : x0 ≤ y0) (h1 : x1 ≤ y1) (n0 : 0 ≤ n) (n1 : n ≤ 3600000) : (x0 * (3600000 - n) + x1 * n) / 3600000 ≤ cdiv (y0 * (3600000 - n) + y1 * n) 3600000 := by
  have a := Int.mul_le_mul_of_nonneg_right h0 (show 0 ≤ 3600000 - n by omega)
  have b := Int.mul_le_mul_of_nonneg_right h1 n0
  unfold cdiv
  omega
theorem ins_bnd {A : Int → Int × Int} (hA : ArcsOk A) (ms : Int) : Bnd (insL A ms, insH A ms) := by
  unfold insL insH Bnd
  split
  · exact ⟨hA.lo _, hA.le _, hA.hi _⟩
  · exact ⟨lin_ge (hA.lo _) (hA.lo _) (by omega) (by omega), lin_mono (hA.le _) (hA.le _) (by omega) (by omega), lin_le (hA.hi _) (hA.hi _) (by omega) (by omega)⟩
theorem pcs_bnd {A : Int → Int × Int} (hA : ArcsOk A) (lo hi : Int) : Bnd (hullL (pcs A lo hi)) := by
  refine Bnd.lst fun y hy => ?_
  unfold pcs hrs at hy
  rcases List.mem_append.1 hy with h | h
  · simp only [List.mem_cons, List.not_mem_nil, or_false] at h
    rcases h with rfl | rfl <;> exact ins_bnd hA _
  · obtain ⟨i, _, rfl⟩ := List.mem_map.1 h
    exact ⟨hA.lo _, hA.le _, hA.hi _⟩

set_option maxRecDepth 100000 in
theorem inc_over (A : Int → Int × Int) (g : Nat) (q : Value) (v : Value) (t : TrkV) (lo hi : Int) (w : World) (hA : ArcsOk A) (hT : Trk w v t)
    (l0 : 0 ≤ lo) (l1 : lo ≤ 86400000) (h0 : 0 ≤ hi) (h1 : hi ≤ 86400000) (r0 : 0 ≤ t.r) (r1 : t.r ≤ 100000)
    (eg : ∀ args w, (callFunc g args).run Tryz.prog w = .ok (.enter g args) w)
    (hat : ∀ W (h : Int), Kept (· < w.heap.size) w W → 0 ≤ h → h ≤ 24 → Calls Tryz.prog g #[.int .i64 h, q] W fun e w' => e = .returned (.agg #[.int .i64 ((A h).1), .int .i64 ((A h).2)]) ∧ ∃ d, w' = bw W d) :
    Calls Tryz.prog 327 #[v, .int .i64 lo, .int .i64 hi, .func (.func g) #[] #[q]] w fun e w' => e = .returned (.agg #[.int .i64 ((ovr A lo hi t.r).1), .int .i64 ((ovr A lo hi t.r).2)]) ∧ ∃ d, w' = bw w d := by
  obtain ⟨vg, vd, rfl, _⟩ := hT
  have HAT := Lib.hid hat
  clear hat
  refine (callsIn_wide (n := 20)).1 ?_
  refine callsIn_of_wp_marks Tryz.func327 rfl trivial ?_ rfl
  simp only [Tryz.ntmps327, List.size_toArray, List.length_cons, List.length_nil, Nat.reduceAdd, Nat.reduceSub, Array.replicate_succ, Array.replicate_zero, List.push_toArray, List.append_toArray, List.nil_append, List.cons_append]
  change Code.wpIn _ _ _ _ _ _ (lay w [])
  gi_wp2_with fail
  refine ⟨trivial, (callsIn_wide.2 (inc_pieces lo hi g q w _)).mono ?_⟩
  rintro e w' ⟨rfl, rfl⟩
  gi_wp2_with fail
  have q0 : posn w [] = w.heap.size := rfl
  have q1 : posn w [1] = w.heap.size + 1 := rfl
  have q2 : posn w [1, 1] = w.heap.size + 2 := rfl
  have q3 : posn w [1, 1, 1] = w.heap.size + 3 := rfl
  have q4 : posn w [1, 1, 1, 1] = w.heap.size + 4 := rfl
  have q5 : posn w [1, 1, 1, 1, 1] = w.heap.size + 5 := rfl
  have q6 : posn w [1, 1, 1, 1, 1, 1] = w.heap.size + 6 := rfl
  have q7 : posn w [1, 1, 1, 1, 1, 1, 1] = w.heap.size + 7 := rfl
  simp only [q0, q1, q2, q3, q4, q5, q6, q7]
  clear q0 q1 q2 q3 q4 q5 q6 q7
  obtain ⟨p, hp⟩ : ∃ p : Nat → Prop, p = fun k => k < w.heap.size ∨ (w.heap.size + 4 ≤ k ∧ k < w.heap.size + 8) := ⟨_, rfl⟩
  have hps : ∀ k, p k → k < w.heap.size + 8 := by intro k hk; rw [hp] at hk; rcases hk with h | h <;> omega
  have hpm : ∀ k, w.heap.size + 4 ≤ k → k < w.heap.size + 8 → p k := by intro k h1 h2; rw [hp]; exact .inr ⟨h1, h2⟩
  have hpl : ∀ k, k < w.heap.size → p k := by intro k h; rw [hp]; exact .inl h
  have hpn : ∀ k, p k → k ≠ w.heap.size + 2 ∧ k ≠ w.heap.size + 3 := by intro k hk; rw [hp] at hk; rcases hk with h | h <;> omega
  clear hp
  have r7 : (lay w [.inl (.cells #[.func (.func 354) #[] #[.pointer (some ⟨w.heap.size + 6, 0, none⟩)]] 76 (0, 0)), .inl (.cells #[.func (.func g) #[] #[q]] 76 (0, 0)), .inl (.cells #[.int .i64 hi] 3 (0, 0)), .inl (.cells #[.int .i64 lo] 3 (0, 0)), .inl (.cells #[.bool true] 4 (0, 0)), .inl (.cells #[.int .i64 0, .int .i64 0] 23 (0, 0)), .inl (.cells #[.int .i64 0, .int .i64 0] 23 (0, 0)), .inl (.cells #[.string t.s, vg, vd, .int .i64 t.p, .int .i64 t.q, .int .i64 t.r] 182 (0, 0))]).heap[w.heap.size + 7]? = some (.cells #[.func (.func 354) #[] #[.pointer (some ⟨w.heap.size + 6, 0, none⟩)]] 76 (0, 0)) := lay_get w _ 0 _ rfl
  have r6 : (lay w [.inl (.cells #[.func (.func 354) #[] #[.pointer (some ⟨w.heap.size + 6, 0, none⟩)]] 76 (0, 0)), .inl (.cells #[.func (.func g) #[] #[q]] 76 (0, 0)), .inl (.cells #[.int .i64 hi] 3 (0, 0)), .inl (.cells #[.int .i64 lo] 3 (0, 0)), .inl (.cells #[.bool true] 4 (0, 0)), .inl (.cells #[.int .i64 0, .int .i64 0] 23 (0, 0)), .inl (.cells #[.int .i64 0, .int .i64 0] 23 (0, 0)), .inl (.cells #[.string t.s, vg, vd, .int .i64 t.p, .int .i64 t.q, .int .i64 t.r] 182 (0, 0))]).heap[w.heap.size + 6]? = some (.cells #[.func (.func g) #[] #[q]] 76 (0, 0)) := lay_get w _ 1 _ rfl
  have r5 : (lay w [.inl (.cells #[.func (.func 354) #[] #[.pointer (some ⟨w.heap.size + 6, 0, none⟩)]] 76 (0, 0)), .inl (.cells #[.func (.func g) #[] #[q]] 76 (0, 0)), .inl (.cells #[.int .i64 hi] 3 (0, 0)), .inl (.cells #[.int .i64 lo] 3 (0, 0)), .inl (.cells #[.bool true] 4 (0, 0)), .inl (.cells #[.int .i64 0, .int .i64 0] 23 (0, 0)), .inl (.cells #[.int .i64 0, .int .i64 0] 23 (0, 0)), .inl (.cells #[.string t.s, vg, vd, .int .i64 t.p, .int .i64 t.q, .int .i64 t.r] 182 (0, 0))]).heap[w.heap.size + 5]? = some (.cells #[.int .i64 hi] 3 (0, 0)) := lay_get w _ 2 _ rfl
  have r4 : (lay w [.inl (.cells #[.func (.func 354) #[] #[.pointer (some ⟨w.heap.size + 6, 0, none⟩)]] 76 (0, 0)), .inl (.cells #[.func (.func g) #[] #[q]] 76 (0, 0)), .inl (.cells #[.int .i64 hi] 3 (0, 0)), .inl (.cells #[.int .i64 lo] 3 (0, 0)), .inl (.cells #[.bool true] 4 (0, 0)), .inl (.cells #[.int .i64 0, .int .i64 0] 23 (0, 0)), .inl (.cells #[.int .i64 0, .int .i64 0] 23 (0, 0)), .inl (.cells #[.string t.s, vg, vd, .int .i64 t.p, .int .i64 t.q, .int .i64 t.r] 182 (0, 0))]).heap[w.heap.size + 4]? = some (.cells #[.int .i64 lo] 3 (0, 0)) := lay_get w _ 3 _ rfl
  have r3 : (lay w [.inl (.cells #[.func (.func 354) #[] #[.pointer (some ⟨w.heap.size + 6, 0, none⟩)]] 76 (0, 0)), .inl (.cells #[.func (.func g) #[] #[q]] 76 (0, 0)), .inl (.cells #[.int .i64 hi] 3 (0, 0)), .inl (.cells #[.int .i64 lo] 3 (0, 0)), .inl (.cells #[.bool true] 4 (0, 0)), .inl (.cells #[.int .i64 0, .int .i64 0] 23 (0, 0)), .inl (.cells #[.int .i64 0, .int .i64 0] 23 (0, 0)), .inl (.cells #[.string t.s, vg, vd, .int .i64 t.p, .int .i64 t.q, .int .i64 t.r] 182 (0, 0))]).heap[w.heap.size + 3]? = some (.cells #[.bool true] 4 (0, 0)) := lay_get w _ 4 _ rfl
  have r2 : (lay w [.inl (.cells #[.func (.func 354) #[] #[.pointer (some ⟨w.heap.size + 6, 0, none⟩)]] 76 (0, 0)), .inl (.cells #[.func (.func g) #[] #[q]] 76 (0, 0)), .inl (.cells #[.int .i64 hi] 3 (0, 0)), .inl (.cells #[.int .i64 lo] 3 (0, 0)), .inl (.cells #[.bool true] 4 (0, 0)), .inl (.cells #[.int .i64 0, .int .i64 0] 23 (0, 0)), .inl (.cells #[.int .i64 0, .int .i64 0] 23 (0, 0)), .inl (.cells #[.string t.s, vg, vd, .int .i64 t.p, .int .i64 t.q, .int .i64 t.r] 182 (0, 0))]).heap[w.heap.size + 2]? = some (.cells #[.int .i64 0, .int .i64 0] 23 (0, 0)) := lay_get w _ 5 _ rfl
  have v1 : (lay w [.inl (.cells #[.func (.func 354) #[] #[.pointer (some ⟨w.heap.size + 6, 0, none⟩)]] 76 (0, 0)), .inl (.cells #[.func (.func g) #[] #[q]] 76 (0, 0)), .inl (.cells #[.int .i64 hi] 3 (0, 0)), .inl (.cells #[.int .i64 lo] 3 (0, 0)), .inl (.cells #[.bool true] 4 (0, 0)), .inl (.cells #[.int .i64 0, .int .i64 0] 23 (0, 0)), .inl (.cells #[.int .i64 0, .int .i64 0] 23 (0, 0)), .inl (.cells #[.string t.s, vg, vd, .int .i64 t.p, .int .i64 t.q, .int .i64 t.r] 182 (0, 0))]).heap[w.heap.size + 1]? = some (.cells #[.int .i64 0, .int .i64 0] 23 (0, 0)) := lay_get w _ 6 _ rfl
  have v0 : (lay w [.inl (.cells #[.func (.func 354) #[] #[.pointer (some ⟨w.heap.size + 6, 0, none⟩)]] 76 (0, 0)), .inl (.cells #[.func (.func g) #[] #[q]] 76 (0, 0)), .inl (.cells #[.int .i64 hi] 3 (0, 0)), .inl (.cells #[.int .i64 lo] 3 (0, 0)), .inl (.cells #[.bool true] 4 (0, 0)), .inl (.cells #[.int .i64 0, .int .i64 0] 23 (0, 0)), .inl (.cells #[.int .i64 0, .int .i64 0] 23 (0, 0)), .inl (.cells #[.string t.s, vg, vd, .int .i64 t.p, .int .i64 t.q, .int .i64 t.r] 182 (0, 0))]).heap[w.heap.size]? = some (.cells #[.string t.s, vg, vd, .int .i64 t.p, .int .i64 t.q, .int .i64 t.r] 182 (0, 0)) := lay_get w _ 7 _ rfl
  have hB := lay_extends w [.inl (.cells #[.func (.func 354) #[] #[.pointer (some ⟨w.heap.size + 6, 0, none⟩)]] 76 (0, 0)), .inl (.cells #[.func (.func g) #[] #[q]] 76 (0, 0)), .inl (.cells #[.int .i64 hi] 3 (0, 0)), .inl (.cells #[.int .i64 lo] 3 (0, 0)), .inl (.cells #[.bool true] 4 (0, 0)), .inl (.cells #[.int .i64 0, .int .i64 0] 23 (0, 0)), .inl (.cells #[.int .i64 0, .int .i64 0] 23 (0, 0)), .inl (.cells #[.string t.s, vg, vd, .int .i64 t.p, .int .i64 t.q, .int .i64 t.r] 182 (0, 0))]
  have hsz : (lay w [.inl (.cells #[.func (.func 354) #[] #[.pointer (some ⟨w.heap.size + 6, 0, none⟩)]] 76 (0, 0)), .inl (.cells #[.func (.func g) #[] #[q]] 76 (0, 0)), .inl (.cells #[.int .i64 hi] 3 (0, 0)), .inl (.cells #[.int .i64 lo] 3 (0, 0)), .inl (.cells #[.bool true] 4 (0, 0)), .inl (.cells #[.int .i64 0, .int .i64 0] 23 (0, 0)), .inl (.cells #[.int .i64 0, .int .i64 0] 23 (0, 0)), .inl (.cells #[.string t.s, vg, vd, .int .i64 t.p, .int .i64 t.q, .int .i64 t.r] 182 (0, 0))]).heap.size = w.heap.size + 8 := by rw [lay_size]; rfl
  generalize lay w [.inl (.cells #[.func (.func 354) #[] #[.pointer (some ⟨w.heap.size + 6, 0, none⟩)]] 76 (0, 0)), .inl (.cells #[.func (.func g) #[] #[q]] 76 (0, 0)), .inl (.cells #[.int .i64 hi] 3 (0, 0)), .inl (.cells #[.int .i64 lo] 3 (0, 0)), .inl (.cells #[.bool true] 4 (0, 0)), .inl (.cells #[.int .i64 0, .int .i64 0] 23 (0, 0)), .inl (.cells #[.int .i64 0, .int .i64 0] 23 (0, 0)), .inl (.cells #[.string t.s, vg, vd, .int .i64 t.p, .int .i64 t.q, .int .i64 t.r] 182 (0, 0))] = W0 at *
  have hK : ∀ W, Kept p W0 W → Kept (· < w.heap.size) w W := fun W k => ⟨Nat.le_trans hB.size k.size, fun i hi => (k.same i (hpl i hi)).trans (hB.block i hi)⟩
  refine wpIn_rangeFunc_ownH (F := Fence.wide) (n := 20) rfl (by decide) (gf := 356) (lb := #[.pointer (some ⟨w.heap.size + 7, 0, none⟩), .pointer (some ⟨w.heap.size + 4, 0, none⟩), .pointer (some ⟨w.heap.size + 5, 0, none⟩), .pointer (some ⟨w.heap.size + 6, 0, none⟩)]) rfl trivial (enters_of Tryz.func356 (by kernel_rfl) rfl)
    (pieces_stops 19 (by decide) A g q (w.heap.size + 7) (w.heap.size + 4) (w.heap.size + 5) (w.heap.size + 6) lo hi p W0 hA l0 l1 h0 h1 (fun k hk => by have := hps k hk; omega) (hpm _ (by omega) (by omega)) (hpm _ (by omega) (by omega)) (hpm _ (by omega) (by omega)) (hpm _ (by omega) (by omega))
      (cell_blk r7) (cell_blk r4) (cell_blk r5) (cell_blk r6) eg (fun W h k => HAT.out W h (hK W k)))
    Kept.trans (Kept.row (fun k hk => by have := hps k hk; omega)) (Below.refl _ _) (fun _ => rfl)
    (fun pre W => (((W.heap[w.heap.size + 2]? = some (.cells #[.int .i64 (hullL pre).1, .int .i64 (hullL pre).2] 23 (0, 0))) ∧ (W.heap[w.heap.size + 3]? = some (.cells #[.bool pre.isEmpty] 4 (0, 0)))) ∧
      ((W.heap[w.heap.size + 1]? = some (.cells #[.int .i64 0, .int .i64 0] 23 (0, 0))) ∧ (W.heap[w.heap.size]? = some (.cells #[.string t.s, vg, vd, .int .i64 t.p, .int .i64 t.q, .int .i64 t.r] 182 (0, 0))))) ∧ (Below w.heap.size w W ∧ w.heap.size + 8 ≤ W.heap.size))
    (fun _ _ _ => False)
    (OwnFrom.and (OwnFrom.and (OwnFrom.and (ownFrom_blk (by omega) (fun pre : List (Int × Int) => Obj.cells #[.int .i64 (hullL pre).1, .int .i64 (hullL pre).2] 23 (0, 0))) (ownFrom_blk (by omega) (fun pre : List (Int × Int) => Obj.cells #[.bool pre.isEmpty] 4 (0, 0)))) (OwnFrom.and (ownFrom_blk (by omega) (fun _ => Obj.cells #[.int .i64 0, .int .i64 0] 23 (0, 0))) (ownFrom_blk (by omega) (fun _ => Obj.cells #[.string t.s, vg, vd, .int .i64 t.p, .int .i64 t.q, .int .i64 t.r] 182 (0, 0))))) (OwnFrom.and (ownFrom_below (Nat.le_refl _) (by omega)) (fun _ _ _ _ hs hg _ => Nat.le_trans hs hg.size)))
    (fun _ _ _ _ _ hs _ _ => hs)
    ⟨⟨⟨r2, r3⟩, ⟨v1, v0⟩⟩, hB, by omega⟩
    (fun x a' W => ∃ Bx, w.heap.size + 8 ≤ Bx ∧ W.heap[Bx]? = some (.cells #[.int .i64 x.1, .int .i64 x.2] 23 (0, 0)) ∧ a' = { tmps := #[.agg #[.string t.s, vg, vd, .int .i64 t.p, .int .i64 t.q, .int .i64 t.r], .int .i64 lo, .int .i64 hi, .func (.func g) #[] #[q], .pointer (some ⟨w.heap.size, 0, none⟩), undef, undef, undef, .pointer (some ⟨w.heap.size + 1, 0, none⟩), .pointer (some ⟨w.heap.size + 2, 0, none⟩), .pointer (some ⟨w.heap.size + 3, 0, none⟩), .pointer (some ⟨Bx, 0, none⟩), undef, .int .i64 lo, .int .i64 hi, .func (.func g) #[] #[q], .func (.func 356) #[] #[.pointer (some ⟨w.heap.size + 7, 0, none⟩), .pointer (some ⟨w.heap.size + 4, 0, none⟩), .pointer (some ⟨w.heap.size + 5, 0, none⟩), .pointer (some ⟨w.heap.size + 6, 0, none⟩)], (.agg #[.int .i64 (x.1), .int .i64 (x.2)]), undef, undef, undef, undef, undef, undef, undef, undef, undef, undef, undef, undef, undef, undef, undef, undef, undef, undef, undef, undef, undef, undef, undef, undef, undef, undef, undef, undef, undef, undef, undef, undef, undef, undef, undef], defers := [] })
    (fun x a' _ X Y row hs hg hr => by obtain ⟨Bx, k1, k2, k3⟩ := hs; exact ⟨Bx, k1, (hg.block Bx (Array.getElem?_eq_some_iff.1 k2).1 (fun e => by obtain ⟨_, o, ho, hc⟩ := hr Bx e.symm; rw [k2] at ho; cases ho; cases hc)).trans k2, k3⟩)
    ?assign ?body ?done ?stop
  case assign =>
    rintro l pre x W K ⟨⟨⟨s2, s3⟩, ⟨s1, s0⟩⟩, hBW, hsW⟩ hKK
    change Code.wpIn _ _ _ _ _ _ (lay W [])
    gi_wp2
    have hlt : ∀ {k : Nat} {o : Obj}, W.heap[k]? = some o → (lay W [Sum.inl (Obj.cells #[Value.int IntKind.i64 x.1, Value.int IntKind.i64 x.2] 23 (0, 0))]).heap[k]? = some o := fun h => (Below.heap_alloc W _ _ (Array.getElem?_eq_some_iff.1 h).1).trans h
    exact hKK _ _ ((KeepsOthers.alloc W _).from _) (Kept.of_below (lay_extends W _) (fun k hk => by have := hps k hk; omega)) ⟨⟨⟨hlt s2, hlt s3⟩, ⟨hlt s1, hlt s0⟩⟩, hBW.alloc hBW.size _, by rw [lay_size]; unfold posn; omega⟩ ⟨W.heap.size, by omega, lay_get W _ 0 _ rfl, rfl⟩
  case body =>
    rintro l pre x a' W hl hr ⟨⟨⟨s2, s3⟩, ⟨s1, s0⟩⟩, hBW, hsW⟩ ⟨Bx, hBx, sx, rfl⟩ hlt
    have c20 := cell_blk (i := 0) s2
    have c21 := cell_blk (i := 1) s2
    have f20 := froz_blk (i := 0) s2
    have f21 := froz_blk (i := 1) s2
    have c30 := cell_blk (i := 0) s3
    have f30 := froz_blk (i := 0) s3
    have cx0 := cell_blk (i := 0) sx
    have cx1 := cell_blk (i := 1) sx
    simp at c20 c21 c30 cx0 cx1
    cases pre with
    | nil =>
      gi_wp2
      refine ⟨kf_set (kf_set (kf_set (kf_set (kf_set (KeepsFrom.refl _ W) _ _ _) _ _ _) _ _ _) _ _ _) _ _ _, ((((Kept.refl p W).set (fun k hk => (hpn k hk).1)).set (fun k hk => (hpn k hk).1)).set (fun k hk => (hpn k hk).2) |>.set (fun k hk => (hpn k hk).1)).set (fun k hk => (hpn k hk).1), ⟨⟨?_, ?_⟩, ?_, ?_⟩, ?_, ?_⟩
      · refine (set_blk (set_blk (far_blk (set_blk (set_blk s2)) (by omega)))).trans ?_
        simp [mn_eq, mx_eq, hullL]
      · exact (far_blk (far_blk (set_blk (far_blk (far_blk s3 (by omega)) (by omega))) (by omega)) (by omega)).trans rfl
      · exact far_blk (far_blk (far_blk (far_blk (far_blk s1 (by omega)) (by omega)) (by omega)) (by omega)) (by omega)
      · exact far_blk (far_blk (far_blk (far_blk (far_blk s0 (by omega)) (by omega)) (by omega)) (by omega)) (by omega)
      · exact ((((hBW.setCell (by simp) _).setCell (by simp) _).setCell (by simp) _).setCell (by simp) _).setCell (by simp) _
      · simp; omega
    | cons y pre =>
      gi_wp2
      refine ⟨kf_set (kf_set (KeepsFrom.refl _ W) _ _ _) _ _ _, ((Kept.refl p W).set (fun k hk => (hpn k hk).1)).set (fun k hk => (hpn k hk).1), ⟨⟨?_, ?_⟩, ?_, ?_⟩, ?_, ?_⟩
      · refine (set_blk (set_blk s2)).trans ?_
        rw [hullL_snoc _ _ (List.cons_ne_nil _ _)]
        simp [mn_eq, mx_eq, hull2]
      · exact (far_blk (far_blk s3 (by omega)) (by omega)).trans rfl
      · exact far_blk (far_blk s1 (by omega)) (by omega)
      · exact far_blk (far_blk s0 (by omega)) (by omega)
      · exact (hBW.setCell (by simp) _).setCell (by simp) _
      · simp; omega
  case done =>
    rintro D ys W hD rfl ⟨⟨⟨s2, s3⟩, ⟨s1, s0⟩⟩, hBW, hsW⟩ hK
    have c20 := cell_blk (i := 0) s2
    have c21 := cell_blk (i := 1) s2
    have c05 := cell_blk (i := 5) s0
    have f10 := froz_blk (i := 0) s1
    have f11 := froz_blk (i := 1) s1
    have c10 := cell_blk (i := 0) s1
    have c11 := cell_blk (i := 1) s1
    simp at c20 c21 c05 c10 c11
    have m0 : 0 ≤ cdiv (100 * t.r) 8 ∧ cdiv (100 * t.r) 8 ≤ 1250001 := by unfold cdiv; omega
    obtain ⟨bd0, bd1, bd2⟩ := pcs_bnd hA lo hi
    by_cases hc : lo = hi ∧ lo % 3600000 = 0
    · obtain ⟨hc1, hc2⟩ := hc
      subst hc1
      have g2 : (lo % 3600000 == 0) = true := beq_iff_eq.2 hc2
      gi_wp2
      have u1 := set_blk (i := 1) (v := .int .i64 (hullL (pcs A lo lo)).2) (set_blk (i := 0) (v := .int .i64 (hullL (pcs A lo lo)).1) s1)
      have hK' := far_blk (b := w.heap.size + 1) (i := 1) (v := .int .i64 (hullL (pcs A lo lo)).2) (far_blk (b := w.heap.size + 1) (i := 0) (v := .int .i64 (hullL (pcs A lo lo)).1) hK (by omega)) (by omega)
      refine ⟨by simp, .inl ⟨_, _, rfl, run_takeDeferred hK', ?_⟩⟩
      have u2 := (World.putObj_heap_other (o := .deferred none) (by omega : w.heap.size + 1 ≠ D)).trans u1
      have d0 := cell_blk (i := 0) u2
      have d1 := cell_blk (i := 1) u2
      simp at d0 d1
      refine ⟨(.agg #[.int .i64 ((hullL (pcs A lo lo)).1), .int .i64 ((hullL (pcs A lo lo)).2)]), by simp [results, Tryz.results327, go_sem, d0, d1], ?_, bw_of (((hBW.setCell (by simp) _).setCell (by simp) _).trans (belowK_b (w := w) (Nat.le_refl _) _ D _ _ (by omega) hK' rfl rfl))⟩
      rw [ovr, if_pos ⟨rfl, hc2⟩]
    · by_cases hc1 : lo = hi
      · subst hc1
        have g2 : (lo % 3600000 == 0) = false := beq_eq_false_iff_ne.2 fun e => hc ⟨rfl, e⟩
        gi_wp2_with fail
        refine ⟨trivial, (callsIn_wide.2 (inc_ceil _ _ W (by decide) (by omega) (by omega))).mono ?_⟩
        rintro e w' ⟨rfl, hw⟩
        subst hw
        gi_wp2
        have u1 := set_blk (i := 1) (v := .int .i64 ((hullL (pcs A lo lo)).2 + cdiv (100 * t.r) 8)) (set_blk (i := 0) (v := .int .i64 ((hullL (pcs A lo lo)).1 - cdiv (100 * t.r) 8)) s1)
        have hK' := far_blk (b := w.heap.size + 1) (i := 1) (v := .int .i64 ((hullL (pcs A lo lo)).2 + cdiv (100 * t.r) 8)) (far_blk (b := w.heap.size + 1) (i := 0) (v := .int .i64 ((hullL (pcs A lo lo)).1 - cdiv (100 * t.r) 8)) hK (by omega)) (by omega)
        refine ⟨by simp, .inl ⟨_, _, rfl, run_takeDeferred hK', ?_⟩⟩
        have u2 := (World.putObj_heap_other (o := .deferred none) (by omega : w.heap.size + 1 ≠ D)).trans u1
        have d0 := cell_blk (i := 0) u2
        have d1 := cell_blk (i := 1) u2
        simp at d0 d1
        refine ⟨(.agg #[.int .i64 ((hullL (pcs A lo lo)).1 - cdiv (100 * t.r) 8), .int .i64 ((hullL (pcs A lo lo)).2 + cdiv (100 * t.r) 8)]), by simp [results, Tryz.results327, go_sem, d0, d1], ?_, bw_of (((hBW.setCell (by simp) _).setCell (by simp) _).trans (belowK_b (w := w) (Nat.le_refl _) _ D _ _ (by omega) hK' rfl rfl))⟩
        rw [ovr, if_neg (fun e => by rw [e.2] at g2; cases g2)]
      · have g1 : (lo == hi) = false := beq_eq_false_iff_ne.2 hc1
        gi_wp2_with fail
        refine ⟨trivial, (callsIn_wide.2 (inc_ceil _ _ W (by decide) (by omega) (by omega))).mono ?_⟩
        rintro e w' ⟨rfl, hw⟩
        subst hw
        gi_wp2
        have u1 := set_blk (i := 1) (v := .int .i64 ((hullL (pcs A lo hi)).2 + cdiv (100 * t.r) 8)) (set_blk (i := 0) (v := .int .i64 ((hullL (pcs A lo hi)).1 - cdiv (100 * t.r) 8)) s1)
        have hK' := far_blk (b := w.heap.size + 1) (i := 1) (v := .int .i64 ((hullL (pcs A lo hi)).2 + cdiv (100 * t.r) 8)) (far_blk (b := w.heap.size + 1) (i := 0) (v := .int .i64 ((hullL (pcs A lo hi)).1 - cdiv (100 * t.r) 8)) hK (by omega)) (by omega)
        refine ⟨by simp, .inl ⟨_, _, rfl, run_takeDeferred hK', ?_⟩⟩
        have u2 := (World.putObj_heap_other (o := .deferred none) (by omega : w.heap.size + 1 ≠ D)).trans u1
        have d0 := cell_blk (i := 0) u2
        have d1 := cell_blk (i := 1) u2
        simp at d0 d1
        refine ⟨(.agg #[.int .i64 ((hullL (pcs A lo hi)).1 - cdiv (100 * t.r) 8), .int .i64 ((hullL (pcs A lo hi)).2 + cdiv (100 * t.r) 8)]), by simp [results, Tryz.results327, go_sem, d0, d1], ?_, bw_of (((hBW.setCell (by simp) _).setCell (by simp) _).trans (belowK_b (w := w) (Nat.le_refl _) _ D _ _ (by omega) hK' rfl rfl))⟩
        rw [ovr, if_neg hc]
  case stop =>
    rintro D c pre W _ _ h _
    exact h.elim
end Go.Proofs.YtnnmfdeeicpdlaaGreat

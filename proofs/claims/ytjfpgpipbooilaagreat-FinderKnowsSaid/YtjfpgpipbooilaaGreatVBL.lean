/- Contracts and plain laws, several texts in one: Mde; Inc1; Pg4; Pg5 -/
import Derived.Test.YtjfpgpipbooilaaGreatProg
import Derived.WalkKit
import Derived.WalkSpells
import Derived.WalkLawsBesides
import Derived.Lib.Hide
import Derived.BigQuiet
import Derived.Deep.RegionWith
import Derived.Maps.Own
import Derived.Test.YtjfpgpipbooilaaGreatVAA
import Derived.Test.YtjfpgpipbooilaaGreatVAB
import Derived.Test.YtjfpgpipbooilaaGreatVAY
import Derived.Test.YtjfpgpipbooilaaGreatVBA
import Derived.Test.YtjfpgpipbooilaaGreatVBK
/- The law's large and made, in full. -/
namespace Go.Proofs.YtjfpgpipbooilaaGreat
open Go.RowKit Go.Shelf

def lgT (t : TrkV) : Bool := decide ((100 : Int) < (t.s.size : Int)) || decide ((40 : Int) < (t.g.length : Int)) || decide ((40 : Int) < (t.d.length : Int))
theorem tkD_len {P : Nat → Prop} {w : World} {x : TkW} {t : TrkV} (h : TkD P w x t) : x.gn = t.g.length ∧ x.dn = t.d.length := by
  obtain ⟨_, _, e1, _⟩ := h.g.1
  obtain ⟨_, _, e2, _⟩ := h.d.1
  exact ⟨(Value.slice.inj e1).2.1, (Value.slice.inj e2).2.1⟩
theorem TkD.bw' {P : Nat → Prop} {w : World} {x : TkW} {t : TrkV} (h : TkD P w x t) (d : Ext) : TkD P (Go.Proofs.YtjfpgpipbooilaaGreat.bw w d) x t := h.lay [.inr d]
theorem tksD_len {P : Nat → Prop} {w : World} {a : Option Addr} {n c : Nat} {l : List TrkV} (h : TksD P w (.slice a n c) l) : n = l.length := by
  obtain ⟨_, _, e⟩ := h.form
  exact (Value.slice.inj e).2.1
end Go.Proofs.YtjfpgpipbooilaaGreat
/- Contracts of package increments: Linear, Increment, and their references. -/
namespace Go.Proofs.YtjfpgpipbooilaaGreat
set_option maxHeartbeats 1000000
open Go.RowKit

theorem mul_bd {x k : Int} (M : Int) (h1 : -M ≤ x) (h2 : x ≤ M) (hk : 0 ≤ k) : -(M * k) ≤ x * k ∧ x * k ≤ M * k := by
  have := Int.mul_le_mul_of_nonneg_right h1 hk
  have := Int.mul_le_mul_of_nonneg_right h2 hk
  rw [Int.neg_mul] at *
  omega

def linLo (x0 x1 num den : Int) : Int := (x0 * (den - num) + x1 * num) / den
def linHi (y0 y1 num den : Int) : Int := cdiv (y0 * (den - num) + y1 * num) den
structure LinOk (x0 y0 x1 y1 num den : Int) : Prop where
  a0 : -1099511627776 ≤ x0
  a1 : x0 ≤ 1099511627776
  b0 : -1099511627776 ≤ y0
  b1 : y0 ≤ 1099511627776
  c0 : -1099511627776 ≤ x1
  c1 : x1 ≤ 1099511627776
  d0 : -1099511627776 ≤ y1
  d1 : y1 ≤ 1099511627776
  n0 : 0 ≤ num
  n1 : num ≤ den
  m0 : 1 ≤ den
  m1 : den ≤ 4194304
structure LinBd (x0 y0 x1 y1 num den : Int) : Prop where
  a0 : -4611686018427387904 ≤ x0 * (den - num)
  a1 : x0 * (den - num) ≤ 4611686018427387904
  b0 : -4611686018427387904 ≤ y0 * (den - num)
  b1 : y0 * (den - num) ≤ 4611686018427387904
  c0 : -4611686018427387904 ≤ x1 * num
  c1 : x1 * num ≤ 4611686018427387904
  d0 : -4611686018427387904 ≤ y1 * num
  d1 : y1 * num ≤ 4611686018427387904
  s0 : -4611686018427387904 ≤ x0 * (den - num) + x1 * num
  s1 : x0 * (den - num) + x1 * num ≤ 4611686018427387904
  t0 : -4611686018427387904 ≤ y0 * (den - num) + y1 * num
  t1 : y0 * (den - num) + y1 * num ≤ 4611686018427387904
theorem linBd {x0 y0 x1 y1 num den : Int} (h : LinOk x0 y0 x1 y1 num den) : LinBd x0 y0 x1 y1 num den := by
  obtain ⟨a0, a1, b0, b1, c0, c1, d0, d1, n0, n1, m0, m1⟩ := h
  have p := mul_bd (x := x0) (k := den - num) 1099511627776 a0 a1 (by omega)
  have q := mul_bd (x := y0) (k := den - num) 1099511627776 b0 b1 (by omega)
  have r := mul_bd (x := x1) (k := num) 1099511627776 c0 c1 (by omega)
  have s := mul_bd (x := y1) (k := num) 1099511627776 d0 d1 (by omega)
  constructor <;> omega

theorem inc_floor (a b : Int) (w : World) (hb : 1 ≤ b) (h1 : -9223372036854775807 ≤ a) (h2 : a ≤ 9223372036854775807) :
    Calls Tryz.prog 229 #[.int .i64 a, .int .i64 b] w fun e w' => e = .returned (.int .i64 (a / b)) ∧ w' = w := by
  go_enter Tryz.func229, Tryz.ntmps229
  go_wp2
  · go_ret
    refine ⟨ret_int ?_, rfl⟩
    rw [IntWalk.wrap64_in]
    · exact floor_neg hb ‹_›
    · rw [floor_neg hb ‹_›]; have := ediv_bd hb 9223372036854775807 (by decide) h1 h2; omega
  · go_ret
    exact ⟨ret_int (floor_pos hb ‹_›), rfl⟩
theorem inc_ceil (a b : Int) (w : World) (hb : 1 ≤ b) (h1 : -9223372036854775807 ≤ a) (h2 : a ≤ 9223372036854775807) :
    Calls Tryz.prog 219 #[.int .i64 a, .int .i64 b] w fun e w' => e = .returned (.int .i64 (cdiv a b)) ∧ w' = w := by
  have h3 := ediv_bd (a := -a) hb 9223372036854775807 (by decide) (by omega) (by omega)
  go_enter Tryz.func219, Tryz.ntmps219
  go_wp2_with (go_at_call 229; refine (inc_floor _ _ _ (by omega) (by omega) (by omega)).mono ?_; rintro e w' ⟨rfl, rfl⟩)
  go_ret
  exact ⟨rfl, rfl⟩

theorem inc_linear (x0 y0 x1 y1 num den : Int) (w : World) (h : LinOk x0 y0 x1 y1 num den) :
    Calls Tryz.prog 227 #[(.agg #[.int .i64 (x0), .int .i64 (y0)]), (.agg #[.int .i64 (x1), .int .i64 (y1)]), .int .i64 num, .int .i64 den] w fun e w' => e = .returned (.agg #[.int .i64 (linLo x0 x1 num den), .int .i64 (linHi y0 y1 num den)]) ∧ ∃ d, w' = bw w d := by
  obtain ⟨q1, q2, q3, q4, q5, q6, q7, q8, q9, q10, q11, q12⟩ := linBd h
  obtain ⟨a0, a1, b0, b1, c0, c1, d0, d1, n0, n1, m0, m1⟩ := h
  refine lay_start ?_
  go_enter Tryz.func227, Tryz.ntmps227
  go_wp2_with fail
  refine region_bw_tail 27 (by kernel_rfl) (by kernel_rfl) ?_
  simp only [List.take_succ_cons, List.take_zero, List.drop_succ_cons, List.drop_zero]
  repeat (go_big_quiet_step ((first | (go_at_call 229; exact bqs (inc_floor _ _ _ (by omega) (by omega) (by omega)) ⟨_, rfl⟩) | (go_at_call 219; exact bqs (inc_ceil _ _ _ (by omega) (by omega) (by omega)) ⟨_, rfl⟩))))
  refine wpQuiet_nil ?_
  rintro w' ⟨d, rfl⟩
  go_wp2
  exact bodyPost_ret (v := (.agg #[.int .i64 (linLo x0 x1 num den), .int .i64 (linHi y0 y1 num den)])) (by simp [results, Tryz.results227, go_sem, linLo, linHi]) rfl ⟨rfl, lay_ex _ _⟩

end Go.Proofs.YtjfpgpipbooilaaGreat
/- The first day of 2000; a page of one track. -/
namespace Go.Proofs.YtjfpgpipbooilaaGreat
set_option maxHeartbeats 400000
open Go.RowKit

theorem cal0_right (w : World) : Calls Tryz.prog 147 #[.int .i64 2000, .int .i64 1] w fun e w' => e = .returned (.bool true) ∧ w' = w := by
  go_enter Tryz.func147, Tryz.ntmps147
  go_wp2
  go_ret
  exact ⟨rfl, rfl⟩
theorem cal0_before (w : World) : Calls Tryz.prog 149 #[.int .i64 2000] w fun e w' => e = .returned (.int .i64 730119) ∧ w' = w := by
  go_enter Tryz.func149, Tryz.ntmps149
  go_wp2
  go_ret
  exact ⟨rfl, rfl⟩
theorem cal0_lengths (w : World) : Calls Tryz.prog 188 #[] w fun e w' => e = .returned (.agg #[.int .i64 31, .int .i64 28, .int .i64 31, .int .i64 30, .int .i64 31, .int .i64 30, .int .i64 31, .int .i64 31, .int .i64 30, .int .i64 31, .int .i64 30, .int .i64 31]) ∧ ∃ d, w' = bw w d := by
  refine lay_start ?_
  go_enter Tryz.func188, Tryz.ntmps188
  go_wp2
  exact bodyPost_ret (v := .agg #[.int .i64 31, .int .i64 28, .int .i64 31, .int .i64 30, .int .i64 31, .int .i64 30, .int .i64 31, .int .i64 31, .int .i64 30, .int .i64 31, .int .i64 30, .int .i64 31]) (by simp [results, Tryz.results188, go_sem]) rfl ⟨rfl, lay_ex _ _⟩
theorem cal0_days (w : World) : Calls Tryz.prog 148 #[.int .i64 2000, .int .i64 1] w fun e w' => e = .returned (.int .i64 31) ∧ ∃ d, w' = bw w d := by
  have i0 : ∀ w, (Instr.index 209 (.agg #[.int .i64 31, .int .i64 28, .int .i64 31, .int .i64 30, .int .i64 31, .int .i64 30, .int .i64 31, .int .i64 31, .int .i64 30, .int .i64 31, .int .i64 30, .int .i64 31]) (.int .i64 0)).run Tryz.prog w = .ok (.int .i64 31) w := fun _ => by kernel_rfl
  refine lay_start ?_
  go_enter Tryz.func148, Tryz.ntmps148
  go_wp2_with (go_at_call 188; refine (cal0_lengths _).mono ?_; rintro e w' ⟨rfl, d, rfl⟩)
  go_ret
  exact ⟨rfl, lay_ex _ _⟩
theorem cal0_Valid (w : World) : Calls Tryz.prog 109 #[.agg #[.int .i64 2000, .int .i64 1, .int .i64 1]] w fun e w' => e = .returned (.bool true) ∧ ∃ d, w' = bw w d := by
  refine lay_start ?_
  go_enter Tryz.func109, Tryz.ntmps109
  go_wp2_with fail
  refine region_bw (by kernel_rfl) (by kernel_rfl) ?_
  repeat (go_big_quiet_step ((first | (go_at_call 147; exact bqs (cal0_right _) ⟨_, rfl⟩) | (go_at_call 148; exact bq (cal0_days _) (fun d => lay_join _ _ _ d)))))
  refine wpQuiet_nil ?_
  rintro w' ⟨d, rfl⟩
  rw [lay_bw]
  go_wp2
  go_ret
  exact ⟨rfl, lay_ex _ _⟩
theorem cal0_dayOfYear (w : World) : Calls Tryz.prog 150 #[.agg #[.int .i64 2000, .int .i64 1, .int .i64 1]] w fun e w' => e = .returned (.int .i64 1) ∧ ∃ d, w' = bw w d := by
  refine lay_start ?_
  go_enter Tryz.func150, Tryz.ntmps150
  go_wp2_with fail
  refine wp_loop_rounds 1 ?_
  rw [rounds_succ]
  go_wp2
  go_ret
  exact ⟨rfl, lay_ex _ _⟩
theorem cal0_number (w : World) : Calls Tryz.prog 110 #[.agg #[.int .i64 2000, .int .i64 1, .int .i64 1]] w fun e w' => e = .returned (.int .i64 0) ∧ ∃ d, w' = bw w d := by
  refine lay_start ?_
  go_enter Tryz.func110, Tryz.ntmps110
  go_wp2_with fail
  refine region_bw (by kernel_rfl) (by kernel_rfl) ?_
  repeat (go_big_quiet_step ((first | (go_at_call 149; exact bqs (cal0_before _) ⟨_, rfl⟩) | (go_at_call 150; exact bq (cal0_dayOfYear _) (fun d => lay_join _ _ _ d)))))
  refine wpQuiet_nil ?_
  rintro w' ⟨d, rfl⟩
  rw [lay_bw]
  go_wp2
  go_ret
  exact ⟨rfl, lay_ex _ _⟩
theorem cal0_Number (w : World) : Calls Tryz.prog 60 #[.agg #[.int .i64 2000, .int .i64 1, .int .i64 1]] w fun e w' => e = .returned (.tuple #[.int .i64 0, .int .i64 0]) ∧ ∃ d, w' = bw w d := by
  refine lay_start ?_
  go_enter Tryz.func60, Tryz.ntmps60
  go_wp2_with (first | (go_at_call 109; refine (cal0_Valid _).mono ?_; rintro e w' ⟨rfl, d, rfl⟩) | (go_at_call 110; refine (cal0_number _).mono ?_; rintro e w' ⟨rfl, d, rfl⟩))
  go_ret2
  exact ⟨rfl, lay_ex _ _⟩
end Go.Proofs.YtjfpgpipbooilaaGreat
/- A page of one track is valid just if the track is. -/
namespace Go.Proofs.YtjfpgpipbooilaaGreat
set_option maxHeartbeats 2000000
set_option maxRecDepth 100000
open Go.RowKit

theorem map_empty {P : Program} {k : TypeId} {R : Value → Option (DataW Unit × List MemPlace)} {W : World} {b : Nat} (h : W.heap[b]? = some (.map #[] 0)) : W.ownsMap P k R b 0 (.map []) := by
  obtain ⟨es, clock, hb, F, hs, hD⟩ := World.ownsMap_made W P k R
  have e : (W.alloc (.map #[] 0)).heap[W.heap.size]? = some (.map #[] 0) := by show (W.heap.push _)[_]? = _; simp
  rw [e] at hb
  simp only [Option.some.injEq, Obj.map.injEq] at hb
  obtain ⟨rfl, rfl⟩ := hb
  exact ⟨#[], 0, h, F, hs, hD⟩
theorem zero_bool0 (w : World) : (zeroValue 4).run Tryz.prog w = .ok (.bool false) w := by kernel_rfl
theorem map_type : Tryz.prog.underlying 147 = some (.map 9 4) := by kernel_rfl
theorem bool_of {v : Value} {x : Bool} {ps : List MemPlace} (h : plainElem (H := Unit) Tryz.prog 4 v = some (.lit (.bool x), ps)) : v = .bool x := by
  unfold plainElem at h
  rw [Tryz.underlying4] at h
  cases v <;> simp at h
  rw [h.1]
theorem look_none {W : World} {b : Nat} (h : W.heap[b]? = some (.map #[] 0)) {s : ByteArray} (hs : s.size ≤ maxLen) : (Instr.lookup 147 (.map (some b)) (.string s) false).run Tryz.prog W = .ok (.bool false) W := by
  obtain ⟨v, ps, hrun, hv⟩ := (map_empty (P := Tryz.prog) (k := 9) (R := plainElem Tryz.prog 4) h).lookup (Maps.string_keyed Tryz.underlying9) map_type (zero_bool0 W) (plainElem_bool Tryz.underlying4 false) (WideMaps.keyOf_string_mk (P := Tryz.prog) Tryz.underlying9 hs)
  have e : DataW.atKey (H := Unit) (.map []) (.string s.data.toList) (.lit (.bool false)) = .lit (.bool false) := rfl
  rw [e] at hv
  rw [hrun, bool_of hv]
theorem put_first {W : World} {b : Nat} (h : W.heap[b]? = some (.map #[] 0)) {s : ByteArray} (hs : s.size ≤ maxLen) {w0 : World} (hb : Below w0.heap.size w0 W) (hB : w0.heap.size ≤ b) :
    ∃ d, (Instr.mapUpdate 147 (.map (some b)) (.string s) (.bool true)).run Tryz.prog W = .ok () (bw w0 d) := by
  obtain ⟨w', hrun, _, hg⟩ := (map_empty (P := Tryz.prog) (k := 9) (R := plainElem Tryz.prog 4) h).update (Maps.string_keyed Tryz.underlying9) map_type (by decide) (WideMaps.keyOf_string_mk (P := Tryz.prog) Tryz.underlying9 hs) (plainElem_bool Tryz.underlying4 true)
  obtain ⟨d, hd⟩ := bw_of (hb.grown hg hb.size (fun k e => by cases e; exact hB))
  exact ⟨d, by rw [hrun, hd]⟩
theorem page_Valid_one (v : Value) (t : TrkV) (b : Nat) (w : World) (hv : Trk w v t) (hb : b < w.heap.size) (hc : ∀ c, v = .agg c → ∀ i, i < 6 → w.cell? ⟨b, i, none⟩ = c[i]?) :
    Calls Tryz.prog 56 #[.agg #[.int .i64 2000, .int .i64 1, .int .i64 1, .slice (some ⟨b, 0, none⟩) 1 1]] w fun e w' => e = .returned (.bool (trkB t)) ∧ ∃ d, w' = bw w d := by
  have HV := Lib.hid hv
  obtain ⟨vg, vd, rfl, hs, hg, hd, hp, hq, hr⟩ := hv
  obtain ⟨s, gs, ds, p, q, r⟩ := t
  simp only at hs hg hd hp hq hr HV ⊢
  obtain ⟨ag, cg, rfl, g1, -, -⟩ := hg
  obtain ⟨ad, cd, rfl, d1, -, -⟩ := hd
  have c0 := hc _ rfl 0 (by decide)
  have c1 := hc _ rfl 1 (by decide)
  have c2 := hc _ rfl 2 (by decide)
  have c3 := hc _ rfl 3 (by decide)
  have c4 := hc _ rfl 4 (by decide)
  have c5 := hc _ rfl 5 (by decide)
  simp at c0 c1 c2 c3 c4 c5
  obtain ⟨T, hT⟩ : ∃ T, T = trkB ⟨s, gs, ds, p, q, r⟩ := ⟨_, rfl⟩
  have VT := fun L => page_validTrack _ _ (lay w L) (HV.out.lay L)
  rw [← hT] at VT
  have HVT := Lib.hid VT
  rw [← hT]
  clear VT hT
  have hmm := @run_makeMap Tryz.prog
  clear hc hp hq hr
  refine lay_start ?_
  go_enter Tryz.func56, Tryz.ntmps56
  go_wp2_with (go_at_call 60; refine (cal0_Number _).mono ?_; rintro e w' ⟨rfl, d, rfl⟩)
  refine wp_loop_rounds 2 ?_
  rw [rounds_succ]
  go_wp2_with fail
  refine (HVT.out _).mono ?_
  rintro e w' ⟨rfl, d2, rfl⟩
  have hlk : (Instr.lookup 147 (.map (some (posn w [d.n, 1]))) (.string s) false).run Tryz.prog (lay w [.inr d2, .inl (.cells #[.string s, .slice ag gs.length cg, .slice ad ds.length cd, .int .i64 p, .int .i64 q, .int .i64 r] 122), .inl (.map #[] 0), .inr d, .inl (.cells #[.int .i64 2000, .int .i64 1, .int .i64 1, .slice (some ⟨b, 0, none⟩) 1 1] 112)]) = .ok (.bool false) _ := look_none (by exact lay_get w _ 2 _ rfl) hs
  obtain ⟨e2, hup⟩ : ∃ e2, (Instr.mapUpdate 147 (.map (some (posn w [d.n, 1]))) (.string s) (.bool true)).run Tryz.prog (lay w [.inr d2, .inl (.cells #[.string s, .slice ag gs.length cg, .slice ad ds.length cd, .int .i64 p, .int .i64 q, .int .i64 r] 122), .inl (.map #[] 0), .inr d, .inl (.cells #[.int .i64 2000, .int .i64 1, .int .i64 1, .slice (some ⟨b, 0, none⟩) 1 1] 112)]) = .ok () (lay w [.inr e2]) :=
    put_first (by exact lay_get w _ 2 _ rfl) hs (lay_extends w _) (Nat.le_add_right _ _)
  cases T
  · go_wp2
    go_ret
    exact ⟨rfl, lay_ex _ _⟩
  · go_wp2_with fail
    rw [rounds_succ]
    go_wp2
    go_ret
    exact ⟨rfl, lay_ex _ _⟩
theorem inc_valid (v : Value) (t : TrkV) (w : World) (hv : Trk w v t) :
    Calls Tryz.prog 200 #[v] w fun e w' => e = .returned (.bool (trkB t)) ∧ ∃ d, w' = bw w d := by
  have HP := Lib.hid (fun b L hb hc => page_Valid_one v t b (lay w L) (hv.lay L) hb hc)
  obtain ⟨vg, vd, rfl, -⟩ := hv
  refine lay_start ?_
  go_enter Tryz.func200, Tryz.ntmps200
  go_wp2_with (go_at_call 56; refine (HP.out _ _ (by rw [lay_size]; unfold posn shp; simp [shp]) (by intro c hc i hi; injection hc with hc; subst hc; rw [lay_cell _ _ _ _ (by simp) rfl rfl]; rfl)).mono ?_; rintro e w' ⟨rfl, d, rfl⟩)
  go_ret
  exact ⟨rfl, lay_ex _ _⟩
end Go.Proofs.YtjfpgpipbooilaaGreat

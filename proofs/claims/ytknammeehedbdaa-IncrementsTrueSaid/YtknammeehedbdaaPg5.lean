/- A page of one track is valid just if the track is. -/
import Derived.Test.YtknammeehedbdaaProg
import Derived.Test.YtknammeehedbdaaLay
import Derived.Test.YtknammeehedbdaaRegion
import Derived.Test.YtknammeehedbdaaMix
import Derived.WalkKit
import Derived.WalkSpells
import Derived.WalkLawsBesides
import Derived.Lib.Hide
import Derived.BigQuiet
import Derived.Deep.RegionWith
import Derived.Maps.Own
import Derived.Test.YtknammeehedbdaaPlain
import Derived.Test.YtknammeehedbdaaTrk
import Derived.Test.YtknammeehedbdaaPg1
import Derived.Test.YtknammeehedbdaaPg2
import Derived.Test.YtknammeehedbdaaPg4
namespace Go.Proofs.Ytknammeehedbdaa
open Go.RowKit

theorem map_empty {P : Program} {k : TypeId} {R : Value → Option (DataW Unit × List MemPlace)} {W : World} {b : Nat} (h : W.heap[b]? = some (.map #[] 0)) : W.ownsMap P k R b 0 (.map []) := by
  obtain ⟨es, clock, hb, F, hs, hD⟩ := World.ownsMap_made W P k R
  have e : (W.alloc (.map #[] 0)).heap[W.heap.size]? = some (.map #[] 0) := by show (W.heap.push _)[_]? = _; simp
  rw [e] at hb
  simp only [Option.some.injEq, Obj.map.injEq] at hb
  obtain ⟨rfl, rfl⟩ := hb
  exact ⟨#[], 0, h, F, hs, hD⟩
theorem zero_bool (w : World) : (zeroValue 4).run Try.prog w = .ok (.bool false) w := by kernel_rfl
theorem map_type : Try.prog.underlying 88 = some (.map 9 4) := by kernel_rfl
theorem bool_of {v : Value} {x : Bool} {ps : List MemPlace} (h : plainElem (H := Unit) Try.prog 4 v = some (.lit (.bool x), ps)) : v = .bool x := by
  unfold plainElem at h
  rw [Try.underlying4] at h
  cases v <;> simp at h
  rw [h.1]
theorem look_none {W : World} {b : Nat} (h : W.heap[b]? = some (.map #[] 0)) {s : ByteArray} (hs : s.size ≤ maxLen) : (Instr.lookup 88 (.map (some b)) (.string s) false).run Try.prog W = .ok (.bool false) W := by
  obtain ⟨v, ps, hrun, hv⟩ := (map_empty (P := Try.prog) (k := 9) (R := plainElem Try.prog 4) h).lookup (Maps.string_keyed Try.underlying9) map_type (zero_bool W) (plainElem_bool Try.underlying4 false) (WideMaps.keyOf_string_mk (P := Try.prog) Try.underlying9 hs)
  have e : DataW.atKey (H := Unit) (.map []) (.string s.data.toList) (.lit (.bool false)) = .lit (.bool false) := rfl
  rw [e] at hv
  rw [hrun, bool_of hv]
theorem put_first {W : World} {b : Nat} (h : W.heap[b]? = some (.map #[] 0)) {s : ByteArray} (hs : s.size ≤ maxLen) {w0 : World} (hb : Below w0.heap.size w0 W) (hB : w0.heap.size ≤ b) :
    ∃ d, (Instr.mapUpdate 88 (.map (some b)) (.string s) (.bool true)).run Try.prog W = .ok () (bw w0 d) := by
  obtain ⟨w', hrun, _, hg⟩ := (map_empty (P := Try.prog) (k := 9) (R := plainElem Try.prog 4) h).update (Maps.string_keyed Try.underlying9) map_type (by decide) (WideMaps.keyOf_string_mk (P := Try.prog) Try.underlying9 hs) (plainElem_bool Try.underlying4 true)
  obtain ⟨d, hd⟩ := bw_of (hb.grown hg hb.size (fun k e => by cases e; exact hB))
  exact ⟨d, by rw [hrun, hd]⟩
set_option maxHeartbeats 2000000 in
set_option maxRecDepth 100000 in
theorem page_Valid_one (v : Value) (t : TrkV) (b : Nat) (w : World) (hv : Trk w v t) (hb : b < w.heap.size) (hc : ∀ c, v = .agg c → ∀ i, i < 6 → w.cell? ⟨b, i, none⟩ = c[i]?) :
    Calls Try.prog 67 #[.agg #[.int .i64 2000, .int .i64 1, .int .i64 1, .slice (some ⟨b, 0, none⟩) 1 1]] w fun e w' => e = .returned (.bool (trkB t)) ∧ ∃ d, w' = bw w d := by
  have HV := Lib.hid hv
  obtain ⟨vg, vd, rfl, hs, hg, hd, hp, hq, hr⟩ := hv
  obtain ⟨s, gs, ds, p, q, r⟩ := t
  simp only at hs hg hd hp hq hr HV ⊢
  obtain ⟨ag, cg, rfl, g1, -, -⟩ := hg
  obtain ⟨ad, cd, rfl, d1, -, -⟩ := hd
  have c0 := hc _ rfl 0 (by decide)
  have c1 := hc _ rfl 1 (by decide)
  have c2 := hc _ rfl 2 (by decide)
  have c3 := hc _ rfl 3 (by decide)
  have c4 := hc _ rfl 4 (by decide)
  have c5 := hc _ rfl 5 (by decide)
  simp at c0 c1 c2 c3 c4 c5
  obtain ⟨T, hT⟩ : ∃ T, T = trkB ⟨s, gs, ds, p, q, r⟩ := ⟨_, rfl⟩
  have VT := fun L => page_validTrack _ _ (lay w L) (HV.out.lay L)
  rw [← hT] at VT
  have HVT := Lib.hid VT
  rw [← hT]
  clear VT hT
  have hmm := @run_makeMap Try.prog
  clear hc hp hq hr
  refine lay_start ?_
  go_enter Try.func67, Try.ntmps67
  go_wp2_with (go_at_call 70; refine (cal_Number _).mono ?_; rintro e w' ⟨rfl, d, rfl⟩)
  refine wp_loop_rounds 2 ?_
  rw [rounds_succ]
  go_wp2_with fail
  refine (HVT.out _).mono ?_
  rintro e w' ⟨rfl, d2, rfl⟩
  have hlk : (Instr.lookup 88 (.map (some (posn w [d.n, 1]))) (.string s) false).run Try.prog (lay w [.inr d2, .inl (.cells #[.string s, .slice ag gs.length cg, .slice ad ds.length cd, .int .i64 p, .int .i64 q, .int .i64 r] 43), .inl (.map #[] 0), .inr d, .inl (.cells #[.int .i64 2000, .int .i64 1, .int .i64 1, .slice (some ⟨b, 0, none⟩) 1 1] 82)]) = .ok (.bool false) _ := look_none (by exact lay_get w _ 2 _ rfl) hs
  obtain ⟨e2, hup⟩ : ∃ e2, (Instr.mapUpdate 88 (.map (some (posn w [d.n, 1]))) (.string s) (.bool true)).run Try.prog (lay w [.inr d2, .inl (.cells #[.string s, .slice ag gs.length cg, .slice ad ds.length cd, .int .i64 p, .int .i64 q, .int .i64 r] 43), .inl (.map #[] 0), .inr d, .inl (.cells #[.int .i64 2000, .int .i64 1, .int .i64 1, .slice (some ⟨b, 0, none⟩) 1 1] 82)]) = .ok () (lay w [.inr e2]) :=
    put_first (by exact lay_get w _ 2 _ rfl) hs (lay_extends w _) (Nat.le_add_right _ _)
  cases T
  · go_wp2
    go_ret
    exact ⟨rfl, lay_ex _ _⟩
  · go_wp2_with fail
    rw [rounds_succ]
    go_wp2
    go_ret
    exact ⟨rfl, lay_ex _ _⟩
set_option maxHeartbeats 1000000 in
theorem inc_valid (v : Value) (t : TrkV) (w : World) (hv : Trk w v t) :
    Calls Try.prog 52 #[v] w fun e w' => e = .returned (.bool (trkB t)) ∧ ∃ d, w' = bw w d := by
  have HP := Lib.hid (fun b L hb hc => page_Valid_one v t b (lay w L) (hv.lay L) hb hc)
  obtain ⟨vg, vd, rfl, -⟩ := hv
  refine lay_start ?_
  go_enter Try.func52, Try.ntmps52
  go_wp2_with (go_at_call 67; refine (HP.out _ _ (by rw [lay_size]; unfold posn shp; simp [shp]) (by intro c hc i hi; injection hc with hc; subst hc; rw [lay_cell _ _ _ _ (by simp) rfl rfl]; rfl)).mono ?_; rintro e w' ⟨rfl, d, rfl⟩)
  go_ret
  exact ⟨rfl, lay_ex _ _⟩
end Go.Proofs.Ytknammeehedbdaa

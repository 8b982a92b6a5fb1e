/- The reference's lists: Unwrapped, Declinations. -/
import Derived.Test.YtknammeehedbdaaProg
import Derived.Test.YtknammeehedbdaaLay
import Derived.Test.YtknammeehedbdaaRegion
import Derived.Test.YtknammeehedbdaaMix
import Derived.WalkKit
import Derived.WalkSpells
import Derived.WalkLawsBesides
import Derived.Lib.Hide
import Derived.BigQuiet
import Derived.Deep.RegionWith
import Derived.Test.YtknammeehedbdaaMixT
import Derived.Test.YtknammeehedbdaaPlain
import Derived.Test.YtknammeehedbdaaAngle
import Derived.Test.YtknammeehedbdaaInc1
import Derived.Test.YtknammeehedbdaaTrk
import Derived.Test.YtknammeehedbdaaRf4
namespace Go.Proofs.Ytknammeehedbdaa
open Go.RowKit

set_option maxHeartbeats 4000000 in
theorem ref14_Unwrapped (v : Value) (t : TrkV) (w : World) (hv : Trk w v t) (h1 : 1 ≤ t.g.length) (h2 : t.g.length ≤ 100) (hb : ∀ i, 0 ≤ nth t.g i ∧ nth t.g i ≤ 216000) :
    Calls Try.prog 47 #[v] w fun e w' => ∃ v d, e = .returned v ∧ w' = bw w d ∧ (bw w d).ownsRow w.heap.size 3 1 v t.g.length (angs t.g t.g.length) := by
  obtain ⟨i0, hi, hz0, hz1, hz2⟩ := info_parts info_int4
  obtain ⟨vg, vd, rfl, -, hg, -⟩ := hv
  obtain ⟨a, cap, rfl, hl1, hwf, hc⟩ := hg
  obtain ⟨b, o, rfl, hbs, hcc⟩ := hc (by intro e; rw [e] at h1; simp at h1)
  replace hcc : ∀ i, i < t.g.length → w.cell? ⟨b, o + i, none⟩ = some (.int .i64 (nth t.g i)) := hcc
  clear hc hwf
  obtain ⟨m, hm⟩ : ∃ m, t.g.length = m := ⟨_, rfl⟩
  rw [hm] at h1 h2 hl1 hcc ⊢
  refine lay_start ?_
  have c0 := hcc 0 (by omega)
  rw [Nat.add_zero] at c0
  have b0 := hb 0
  have hm0 : (0 : Int) < (m : Int) := by omega
  go_enter Try.func47, Try.ntmps47
  go_wp2_with fail
  go_loopw [3, 4] (fun v i wr => ∃ (j : Nat) (d : Ext), j + 1 ≤ m ∧ i = .int .i64 ((j : Int) + 1) ∧ wr = lay w [.inr d, .inl (.cells #[.string t.s, .slice (some ⟨b, o, none⟩) m cap, vd, .int .i64 t.p, .int .i64 t.q, .int .i64 t.r] 43 (0, 0))] ∧ (lay w [.inr d, .inl (.cells #[.string t.s, .slice (some ⟨b, o, none⟩) m cap, vd, .int .i64 t.p, .int .i64 t.q, .int .i64 t.r] 43 (0, 0))]).ownsRow (lay w [.inl (.cells #[.string t.s, .slice (some ⟨b, o, none⟩) m cap, vd, .int .i64 t.p, .int .i64 t.q, .int .i64 t.r] 43 (0, 0))]).heap.size 3 1 v (j + 1) (angs t.g (j + 1))) (fun _ i _ => m - (intOf i).toNat)
  case atStart =>
    obtain ⟨d, hd⟩ := lay_ex (lay w [.inl (.cells #[.string t.s, .slice (some ⟨b, o, none⟩) m cap, vd, .int .i64 t.p, .int .i64 t.q, .int .i64 t.r] 43 (0, 0))]) [.inl (.cells #[.int .i64 (100 * nth t.g 0)] 3 (0, 0))]
    refine ⟨0, d, h1, rfl, by first | exact hd | (simp only [go_sem] at hd ⊢; exact hd) | trace_state, ?_⟩
    rw [show lay w [.inr d, .inl (.cells #[.string t.s, .slice (some ⟨b, o, none⟩) m cap, vd, .int .i64 t.p, .int .i64 t.q, .int .i64 t.r] 43 (0, 0))] = _ from hd.symm]
    have hr := World.ownsRow_lit (e := 3) (size := 1) (lay w [.inl (.cells #[.string t.s, .slice (some ⟨b, o, none⟩) m cap, vd, .int .i64 t.p, .int .i64 t.q, .int .i64 t.r] 43 (0, 0))]) #[.int .i64 (100 * nth t.g 0)] 1 (Nat.le_refl _) (by decide) rfl
    rw [lay_size] at hr ⊢
    exact hr
  case round =>
    obtain ⟨j, dd, hj, rfl, rfl, hown⟩ := hrel
    by_cases hlt : j + 1 < m
    · obtain ⟨g, cp, rfl⟩ := row_form hown (by omega)
      have hrow := hown.cellAt j (by omega)
      rw [angs_get _ _ _ (by omega)] at hrow
      have hgb := hown.lt g rfl
      have hrow2 : ∀ d' : Ext, (lay w [.inr d', .inr dd, .inl (.cells #[.string t.s, .slice (some ⟨b, o, none⟩) m cap, vd, .int .i64 t.p, .int .i64 t.q, .int .i64 t.r] 43 (0, 0))]).cell? ⟨g, j, none⟩ = some (.int .i64 (ang t.g j)) := fun d' => (bw_cell _ d' g j hgb.2).trans hrow
      clear hrow
      have e1 : IntKind.i64.wrap ((j : Int) + 1 - 1) = j := by rw [Int.add_sub_cancel]; exact IntWalk.i64_in _ (by omega)
      have e2 : IntKind.i64.wrap (j : Int) = j := IntWalk.i64_in _ (by omega)
      have k0 := hcc j (by omega)
      have k1 := hcc (j + 1) (by omega)
      have x0 : (0 : Int) ≤ (j : Int) := by omega
      have x1 : (j : Int) < (m : Int) := by omega
      have x2 : (0 : Int) ≤ (j : Int) + 1 := by omega
      have x3 : (j : Int) + 1 < (m : Int) := by omega
      have x4 : (j : Int) < ((j + 1 : Nat) : Int) := by omega
      have x5 : ((j : Int) + 1).toNat = j + 1 := by omega
      have x6 : (j : Int) < (j : Int) + 1 := by omega
      have a1 := hb j
      have a2 := hb (j + 1)
      have a3 := ang_bd t.g hb j
      have e3 : IntKind.i64.wrap (nth t.g (j + 1) - nth t.g j) = nth t.g (j + 1) - nth t.g j := IntWalk.i64_in _ (by omega)
      have e5 : IntKind.i64.wrap (ang t.g j + (100 * (nth t.g (j + 1) - nth t.g j)) % 21600000) = ang t.g (j + 1) := IntWalk.i64_in _ (by omega)
      have a4 : IntKind.i64.wrap (100 * (nth t.g (j + 1) - nth t.g j)) = 100 * (nth t.g (j + 1) - nth t.g j) := IntWalk.i64_in _ (by omega)
      go_wp2_with fail
      refine region_mixT 22 [0, 0, 0, 0, 0, 0, 0, 0, 0, 0, 0, 0, 0, 0, 0, 0, 0, 0, 0, 0, 0, 1] (by kernel_rfl) (by kernel_rfl) (by kernel_rfl) (by kernel_rfl) (by simp) (by kernel_rfl) ?_
      simp only [List.take_succ_cons, List.take_zero, List.drop_succ_cons, List.drop_zero]
      repeat (first | (refine wpM_quiet (fun K hK => ?_); go_simp; first | (refine hK _ ?_; clear hK K) | (apply Exists.intro; refine ⟨fun _ => ?_, hK _ ?_⟩; (first | (go_at_call 31; exact bqs (ref05_Wrap _ _) ⟨noExt _, (bw_noExt _).symm⟩)); clear hK K)) | (refine wpM_special (fun K hK d => ?_); go_simp; refine hK _ _ (by first | exact lay_in w [_] _ | exact lay_in w [_, _] _ | exact lay_in w [_, _, _] _ | exact lay_in w [_, _, _, _] _ | exact lay_in w [_, _, _, _, _] _ | exact lay_in w [_, _, _, _, _, _] _) ?_; clear hK K))
      refine wpM_nil ?_
      intro d1
      rw [lay_bw]
      refine wpList_push2 rfl _ _ 32 rfl 3 i0 (.int .i64 0) 1 8 Try.underlying32 hi hz0 hz1 hz2 rfl (by decide) (lay w [.inl (.cells #[.string t.s, .slice (some ⟨b, o, none⟩) m cap, vd, .int .i64 t.p, .int .i64 t.q, .int .i64 t.r] 43 (0, 0))]) (lay w [.inr d1, .inl (.cells #[.int .i64 (ang t.g (j + 1))] 3 (0, 0)), .inr d, .inr dd, .inl (.cells #[.string t.s, .slice (some ⟨b, o, none⟩) m cap, vd, .int .i64 t.p, .int .i64 t.q, .int .i64 t.r] 43 (0, 0))]) #[.int .i64 (ang t.g (j + 1))] 3 (posn w [d.n, dd.n, 1]) _ _ _ (lay_extends (lay w [.inl (.cells #[.string t.s, .slice (some ⟨b, o, none⟩) m cap, vd, .int .i64 t.p, .int .i64 t.q, .int .i64 t.r] 43 (0, 0))]) [.inr d1, .inl (.cells #[.int .i64 (ang t.g (j + 1))] 3 (0, 0)), .inr d, .inr dd]) (row_lay hown [.inr d1, .inl (.cells #[.int .i64 (ang t.g (j + 1))] 3 (0, 0)), .inr d]) (lay_get w [.inr d1, .inl (.cells #[.int .i64 (ang t.g (j + 1))] 3 (0, 0)), .inr d, .inr dd, .inl (.cells #[.string t.s, .slice (some ⟨b, o, none⟩) m cap, vd, .int .i64 t.p, .int .i64 t.q, .int .i64 t.r] 43 (0, 0))] 1 _ rfl) rfl rfl rfl (by simp [Value.oneCell']) (by unfold maxLen; omega) (by omega) ?_
      intro v' d' hown'
      go_wp2_with fail
      go_roundw
      case rel => exact ⟨j + 1, d', hlt, by go_num, rfl, by rw [angs_succ]; exact hown'⟩
      case measure => simp [intOf]; omega
    · obtain rfl : j + 1 = m := by omega
      go_wp2_with fail
      obtain ⟨d, hd⟩ := lay_ex w [.inr dd, .inl (.cells #[.string t.s, .slice (some ⟨b, o, none⟩) (j + 1) cap, vd, .int .i64 t.p, .int .i64 t.q, .int .i64 t.r] 43 (0, 0))]
      have hown2 := row_le (base' := w.heap.size) hown (by rw [lay_size]; unfold posn; omega)
      clear hown
      rw [hd] at hown2 ⊢
      go_ret
      exact ⟨_, d, rfl, rfl, hown2⟩
/-- The declinations in units. -/
def dec100 (l : List Int) (k : Nat) : List Value := (List.range k).map fun i => .int .i64 (100 * nth l i)
theorem dec100_succ (g : List Int) (k : Nat) : dec100 g (k + 1) = dec100 g k ++ [.int .i64 (100 * nth g k)] := by simp [dec100, List.range_succ]
set_option maxHeartbeats 4000000 in
theorem ref14_Declinations (v : Value) (t : TrkV) (w : World) (hv : Trk w v t) (h1 : 1 ≤ t.d.length) (h2 : t.d.length ≤ 100) (hb : ∀ i, -54000 ≤ nth t.d i ∧ nth t.d i ≤ 54000) :
    Calls Try.prog 50 #[v] w fun e w' => ∃ v d, e = .returned v ∧ w' = bw w d ∧ (bw w d).ownsRow w.heap.size 3 1 v t.d.length (dec100 t.d t.d.length) := by
  obtain ⟨i0, hi, hz0, hz1, hz2⟩ := info_parts info_int4
  obtain ⟨vg, vd, rfl, -, -, hg, -⟩ := hv
  obtain ⟨a, cap, rfl, hl1, hwf, hc⟩ := hg
  obtain ⟨b, o, rfl, hbs, hcc⟩ := hc (by intro e; rw [e] at h1; simp at h1)
  replace hcc : ∀ i, i < t.d.length → w.cell? ⟨b, o + i, none⟩ = some (.int .i64 (nth t.d i)) := hcc
  clear hc hwf
  obtain ⟨m, hm⟩ : ∃ m, t.d.length = m := ⟨_, rfl⟩
  rw [hm] at h1 h2 hl1 hcc ⊢
  refine lay_start ?_
  go_enter Try.func50, Try.ntmps50
  go_wp2_with fail
  go_loopw [3, 4] (fun v i wr => ∃ (j : Nat) (d : Ext), j ≤ m ∧ i = .int .i64 (j : Int) ∧ wr = lay w [.inr d, .inl (.cells #[.string t.s, vg, .slice (some ⟨b, o, none⟩) m cap, .int .i64 t.p, .int .i64 t.q, .int .i64 t.r] 43 (0, 0))] ∧ (lay w [.inr d, .inl (.cells #[.string t.s, vg, .slice (some ⟨b, o, none⟩) m cap, .int .i64 t.p, .int .i64 t.q, .int .i64 t.r] 43 (0, 0))]).ownsRow (lay w [.inl (.cells #[.string t.s, vg, .slice (some ⟨b, o, none⟩) m cap, .int .i64 t.p, .int .i64 t.q, .int .i64 t.r] 43 (0, 0))]).heap.size 3 1 v j (dec100 t.d j)) (fun _ i _ => m - (intOf i).toNat)
  case atStart =>
    obtain ⟨d, hd⟩ := lay_ex (lay w [.inl (.cells #[.string t.s, vg, .slice (some ⟨b, o, none⟩) m cap, .int .i64 t.p, .int .i64 t.q, .int .i64 t.r] 43 (0, 0))]) []
    refine ⟨0, d, Nat.zero_le _, rfl, hd, ?_⟩
    rw [show lay w [.inr d, .inl (.cells #[.string t.s, vg, .slice (some ⟨b, o, none⟩) m cap, .int .i64 t.p, .int .i64 t.q, .int .i64 t.r] 43 (0, 0))] = _ from hd.symm]
    exact World.ownsRow_nil _ _ _ _
  case round =>
    obtain ⟨j, d, hj, rfl, rfl, hown⟩ := hrel
    by_cases hlt : j < m
    · have k0 := hcc j hlt
      have x0 : (0 : Int) ≤ (j : Int) := by omega
      have x1 : (j : Int) < (m : Int) := by omega
      have a1 := hb j
      go_wp2_with (at_builtin; refine wpList_push2 rfl _ _ 32 rfl 3 i0 (.int .i64 0) 1 8 Try.underlying32 hi hz0 hz1 hz2 rfl (by decide) (lay w [.inl (.cells #[.string t.s, vg, .slice (some ⟨b, o, none⟩) m cap, .int .i64 t.p, .int .i64 t.q, .int .i64 t.r] 43 (0, 0))]) (lay w [.inl (.cells #[.int .i64 (100 * nth t.d j)] 3 (0, 0)), .inr d, .inl (.cells #[.string t.s, vg, .slice (some ⟨b, o, none⟩) m cap, .int .i64 t.p, .int .i64 t.q, .int .i64 t.r] 43 (0, 0))]) #[.int .i64 (100 * nth t.d j)] 3 (posn w [d.n, 1]) _ _ _ (lay_extends (lay w [.inl (.cells #[.string t.s, vg, .slice (some ⟨b, o, none⟩) m cap, .int .i64 t.p, .int .i64 t.q, .int .i64 t.r] 43 (0, 0))]) [.inl (.cells #[.int .i64 (100 * nth t.d j)] 3 (0, 0)), .inr d]) (row_lay hown [.inl (.cells #[.int .i64 (100 * nth t.d j)] 3 (0, 0))]) (lay_get w [.inl (.cells #[.int .i64 (100 * nth t.d j)] 3 (0, 0)), .inr d, .inl (.cells #[.string t.s, vg, .slice (some ⟨b, o, none⟩) m cap, .int .i64 t.p, .int .i64 t.q, .int .i64 t.r] 43 (0, 0))] 0 _ rfl) rfl rfl rfl (by simp [Value.oneCell']) (by unfold maxLen; omega) (by omega) ?_; intro v' d' hown')
      go_roundw
      case rel => exact ⟨j + 1, d', hlt, by go_num, rfl, by rw [dec100_succ]; exact hown'⟩
      case measure => simp [intOf]; omega
    · obtain rfl : j = m := by omega
      go_wp2_with fail
      obtain ⟨dd, hd⟩ := lay_ex w [.inr d, .inl (.cells #[.string t.s, vg, .slice (some ⟨b, o, none⟩) j cap, .int .i64 t.p, .int .i64 t.q, .int .i64 t.r] 43 (0, 0))]
      have hown2 := row_le (base' := w.heap.size) hown (by rw [lay_size]; unfold posn; omega)
      clear hown
      rw [hd] at hown2 ⊢
      go_ret
      exact ⟨_, dd, rfl, rfl, hown2⟩
end Go.Proofs.Ytknammeehedbdaa

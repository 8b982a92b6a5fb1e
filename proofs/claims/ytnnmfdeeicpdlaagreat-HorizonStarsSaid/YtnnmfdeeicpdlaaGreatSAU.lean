/- Contracts and plain laws, several texts in one: Rf5; Rf8; Rf9; Rf10; Wh2; Wh3 -/
import Derived.Test.YtnnmfdeeicpdlaaGreatProg
import Derived.WalkKit
import Derived.WalkSpells
import Derived.WalkLawsBesides
import Derived.Lib.Hide
import Derived.BigQuiet
import Derived.Deep.RegionWith
import Derived.Test.YtnnmfdeeicpdlaaGreatSAA
import Derived.Test.YtnnmfdeeicpdlaaGreatSAC
import Derived.Test.YtnnmfdeeicpdlaaGreatSAD
import Derived.Test.YtnnmfdeeicpdlaaGreatSAF
import Derived.Test.YtnnmfdeeicpdlaaGreatSAJ
import Derived.Test.YtnnmfdeeicpdlaaGreatSAM
import Derived.Test.YtnnmfdeeicpdlaaGreatSAS
import Derived.Test.YtnnmfdeeicpdlaaGreatSAT
/- The reference's lists: Unwrapped, Declinations. -/
namespace Go.Proofs.YtnnmfdeeicpdlaaGreat
set_option maxHeartbeats 4000000
set_option maxRecDepth 100000
open Go.RowKit

theorem ref14_Unwrapped (v : Value) (t : TrkV) (w : World) (hv : Trk w v t) (h1 : 1 ≤ t.g.length) (h2 : t.g.length ≤ 100) (hb : ∀ i, 0 ≤ nth t.g i ∧ nth t.g i ≤ 216000) :
    Calls Tryz.prog 254 #[v] w fun e w' => ∃ v d, e = .returned v ∧ w' = bw w d ∧ (bw w d).ownsRow w.heap.size 3 1 v t.g.length (angs t.g t.g.length) := by
  obtain ⟨i0, hi, hz0, hz1, hz2⟩ := info_parts info_int4
  obtain ⟨vg, vd, rfl, -, hg, -⟩ := hv
  obtain ⟨a, cap, rfl, hl1, hwf, hc⟩ := hg
  obtain ⟨b, o, rfl, hbs, hcc⟩ := hc (by intro e; rw [e] at h1; simp at h1)
  replace hcc : ∀ i, i < t.g.length → w.cell? ⟨b, o + i, none⟩ = some (.int .i64 (nth t.g i)) := hcc
  clear hc hwf
  obtain ⟨m, hm⟩ : ∃ m, t.g.length = m := ⟨_, rfl⟩
  rw [hm] at h1 h2 hl1 hcc ⊢
  refine lay_start ?_
  have c0 := hcc 0 (by omega)
  rw [Nat.add_zero] at c0
  have b0 := hb 0
  have hm0 : (0 : Int) < (m : Int) := by omega
  go_enter Tryz.func254, Tryz.ntmps254
  go_wp2_with fail
  go_loopw [3, 4] (fun v i wr => ∃ (j : Nat) (d : Ext), j + 1 ≤ m ∧ i = .int .i64 ((j : Int) + 1) ∧ wr = lay w [.inr d, .inl (.cells #[.string t.s, .slice (some ⟨b, o, none⟩) m cap, vd, .int .i64 t.p, .int .i64 t.q, .int .i64 t.r] 182 (0, 0))] ∧ (lay w [.inr d, .inl (.cells #[.string t.s, .slice (some ⟨b, o, none⟩) m cap, vd, .int .i64 t.p, .int .i64 t.q, .int .i64 t.r] 182 (0, 0))]).ownsRow (lay w [.inl (.cells #[.string t.s, .slice (some ⟨b, o, none⟩) m cap, vd, .int .i64 t.p, .int .i64 t.q, .int .i64 t.r] 182 (0, 0))]).heap.size 3 1 v (j + 1) (angs t.g (j + 1))) (fun _ i _ => m - (intOf i).toNat)
  case atStart =>
    obtain ⟨d, hd⟩ := lay_ex (lay w [.inl (.cells #[.string t.s, .slice (some ⟨b, o, none⟩) m cap, vd, .int .i64 t.p, .int .i64 t.q, .int .i64 t.r] 182 (0, 0))]) [.inl (.cells #[.int .i64 (100 * nth t.g 0)] 3 (0, 0))]
    refine ⟨0, d, h1, rfl, by first | exact hd | (simp only [go_sem] at hd ⊢; exact hd) | trace_state, ?_⟩
    rw [show lay w [.inr d, .inl (.cells #[.string t.s, .slice (some ⟨b, o, none⟩) m cap, vd, .int .i64 t.p, .int .i64 t.q, .int .i64 t.r] 182 (0, 0))] = _ from hd.symm]
    have hr := World.ownsRow_lit (e := 3) (size := 1) (lay w [.inl (.cells #[.string t.s, .slice (some ⟨b, o, none⟩) m cap, vd, .int .i64 t.p, .int .i64 t.q, .int .i64 t.r] 182 (0, 0))]) #[.int .i64 (100 * nth t.g 0)] 1 (Nat.le_refl _) (by decide) rfl
    rw [lay_size] at hr ⊢
    exact hr
  case round =>
    obtain ⟨j, dd, hj, rfl, rfl, hown⟩ := hrel
    by_cases hlt : j + 1 < m
    · obtain ⟨g, cp, rfl⟩ := row_form hown (by omega)
      have hrow := hown.cellAt j (by omega)
      rw [angs_get _ _ _ (by omega)] at hrow
      have hgb := hown.lt g rfl
      have hrow2 : ∀ d' : Ext, (lay w [.inr d', .inr dd, .inl (.cells #[.string t.s, .slice (some ⟨b, o, none⟩) m cap, vd, .int .i64 t.p, .int .i64 t.q, .int .i64 t.r] 182 (0, 0))]).cell? ⟨g, j, none⟩ = some (.int .i64 (ang t.g j)) := fun d' => (bw_cell _ d' g j hgb.2).trans hrow
      clear hrow
      have e1 : IntKind.i64.wrap ((j : Int) + 1 - 1) = j := by rw [Int.add_sub_cancel]; exact IntWalk.i64_in _ (by omega)
      have e2 : IntKind.i64.wrap (j : Int) = j := IntWalk.i64_in _ (by omega)
      have k0 := hcc j (by omega)
      have k1 := hcc (j + 1) (by omega)
      have x0 : (0 : Int) ≤ (j : Int) := by omega
      have x1 : (j : Int) < (m : Int) := by omega
      have x2 : (0 : Int) ≤ (j : Int) + 1 := by omega
      have x3 : (j : Int) + 1 < (m : Int) := by omega
      have x4 : (j : Int) < ((j + 1 : Nat) : Int) := by omega
      have x5 : ((j : Int) + 1).toNat = j + 1 := by omega
      have x6 : (j : Int) < (j : Int) + 1 := by omega
      have a1 := hb j
      have a2 := hb (j + 1)
      have a3 := ang_bd t.g hb j
      have e3 : IntKind.i64.wrap (nth t.g (j + 1) - nth t.g j) = nth t.g (j + 1) - nth t.g j := IntWalk.i64_in _ (by omega)
      have e5 : IntKind.i64.wrap (ang t.g j + (100 * (nth t.g (j + 1) - nth t.g j)) % 21600000) = ang t.g (j + 1) := IntWalk.i64_in _ (by omega)
      have a4 : IntKind.i64.wrap (100 * (nth t.g (j + 1) - nth t.g j)) = 100 * (nth t.g (j + 1) - nth t.g j) := IntWalk.i64_in _ (by omega)
      go_wp2_with fail
      refine region_mixT 22 [0, 0, 0, 0, 0, 0, 0, 0, 0, 0, 0, 0, 0, 0, 0, 0, 0, 0, 0, 0, 0, 1] (by kernel_rfl) (by kernel_rfl) (by kernel_rfl) (by kernel_rfl) (by simp) (by kernel_rfl) ?_
      simp only [List.take_succ_cons, List.take_zero, List.drop_succ_cons, List.drop_zero]
      repeat (first | (refine wpM_quiet (fun K hK => ?_); go_simp; first | (refine hK _ ?_; clear hK K) | (apply Exists.intro; refine ⟨fun _ => ?_, hK _ ?_⟩; (first | (go_at_call 177; exact bqs (ref05_Wrap _ _) ⟨noExt _, (bw_noExt _).symm⟩)); clear hK K)) | (refine wpM_special (fun K hK d => ?_); go_simp; refine hK _ _ (by first | exact lay_in w [_] _ | exact lay_in w [_, _] _ | exact lay_in w [_, _, _] _ | exact lay_in w [_, _, _, _] _ | exact lay_in w [_, _, _, _, _] _ | exact lay_in w [_, _, _, _, _, _] _) ?_; clear hK K))
      refine wpM_nil ?_
      intro d1
      rw [lay_bw]
      refine wpList_push2 rfl _ _ 112 rfl 3 i0 (.int .i64 0) 1 8 Tryz.underlying112 hi hz0 hz1 hz2 rfl (by decide) (lay w [.inl (.cells #[.string t.s, .slice (some ⟨b, o, none⟩) m cap, vd, .int .i64 t.p, .int .i64 t.q, .int .i64 t.r] 182 (0, 0))]) (lay w [.inr d1, .inl (.cells #[.int .i64 (ang t.g (j + 1))] 3 (0, 0)), .inr d, .inr dd, .inl (.cells #[.string t.s, .slice (some ⟨b, o, none⟩) m cap, vd, .int .i64 t.p, .int .i64 t.q, .int .i64 t.r] 182 (0, 0))]) #[.int .i64 (ang t.g (j + 1))] 3 (posn w [d.n, dd.n, 1]) _ _ _ (lay_extends (lay w [.inl (.cells #[.string t.s, .slice (some ⟨b, o, none⟩) m cap, vd, .int .i64 t.p, .int .i64 t.q, .int .i64 t.r] 182 (0, 0))]) [.inr d1, .inl (.cells #[.int .i64 (ang t.g (j + 1))] 3 (0, 0)), .inr d, .inr dd]) (row_lay hown [.inr d1, .inl (.cells #[.int .i64 (ang t.g (j + 1))] 3 (0, 0)), .inr d]) (lay_get w [.inr d1, .inl (.cells #[.int .i64 (ang t.g (j + 1))] 3 (0, 0)), .inr d, .inr dd, .inl (.cells #[.string t.s, .slice (some ⟨b, o, none⟩) m cap, vd, .int .i64 t.p, .int .i64 t.q, .int .i64 t.r] 182 (0, 0))] 1 _ rfl) rfl rfl rfl (by simp [Value.oneCell']) (by unfold maxLen; omega) (by omega) ?_
      intro v' d' hown'
      go_wp2_with fail
      go_roundw
      case rel => exact ⟨j + 1, d', hlt, by go_num, rfl, by rw [angs_succ]; exact hown'⟩
      case measure => simp [intOf]; omega
    · obtain rfl : j + 1 = m := by omega
      go_wp2_with fail
      obtain ⟨d, hd⟩ := lay_ex w [.inr dd, .inl (.cells #[.string t.s, .slice (some ⟨b, o, none⟩) (j + 1) cap, vd, .int .i64 t.p, .int .i64 t.q, .int .i64 t.r] 182 (0, 0))]
      have hown2 := row_le (base' := w.heap.size) hown (by rw [lay_size]; unfold posn; omega)
      clear hown
      rw [hd] at hown2 ⊢
      go_ret
      exact ⟨_, d, rfl, rfl, hown2⟩
def dec100 (l : List Int) (k : Nat) : List Value := (List.range k).map fun i => .int .i64 (100 * nth l i)
theorem dec100_succ (g : List Int) (k : Nat) : dec100 g (k + 1) = dec100 g k ++ [.int .i64 (100 * nth g k)] := by simp [dec100, List.range_succ]
theorem ref14_Declinations (v : Value) (t : TrkV) (w : World) (hv : Trk w v t) (h1 : 1 ≤ t.d.length) (h2 : t.d.length ≤ 100) (hb : ∀ i, -54000 ≤ nth t.d i ∧ nth t.d i ≤ 54000) :
    Calls Tryz.prog 256 #[v] w fun e w' => ∃ v d, e = .returned v ∧ w' = bw w d ∧ (bw w d).ownsRow w.heap.size 3 1 v t.d.length (dec100 t.d t.d.length) := by
  obtain ⟨i0, hi, hz0, hz1, hz2⟩ := info_parts info_int4
  obtain ⟨vg, vd, rfl, -, -, hg, -⟩ := hv
  obtain ⟨a, cap, rfl, hl1, hwf, hc⟩ := hg
  obtain ⟨b, o, rfl, hbs, hcc⟩ := hc (by intro e; rw [e] at h1; simp at h1)
  replace hcc : ∀ i, i < t.d.length → w.cell? ⟨b, o + i, none⟩ = some (.int .i64 (nth t.d i)) := hcc
  clear hc hwf
  obtain ⟨m, hm⟩ : ∃ m, t.d.length = m := ⟨_, rfl⟩
  rw [hm] at h1 h2 hl1 hcc ⊢
  refine lay_start ?_
  go_enter Tryz.func256, Tryz.ntmps256
  go_wp2_with fail
  go_loopw [3, 4] (fun v i wr => ∃ (j : Nat) (d : Ext), j ≤ m ∧ i = .int .i64 (j : Int) ∧ wr = lay w [.inr d, .inl (.cells #[.string t.s, vg, .slice (some ⟨b, o, none⟩) m cap, .int .i64 t.p, .int .i64 t.q, .int .i64 t.r] 182 (0, 0))] ∧ (lay w [.inr d, .inl (.cells #[.string t.s, vg, .slice (some ⟨b, o, none⟩) m cap, .int .i64 t.p, .int .i64 t.q, .int .i64 t.r] 182 (0, 0))]).ownsRow (lay w [.inl (.cells #[.string t.s, vg, .slice (some ⟨b, o, none⟩) m cap, .int .i64 t.p, .int .i64 t.q, .int .i64 t.r] 182 (0, 0))]).heap.size 3 1 v j (dec100 t.d j)) (fun _ i _ => m - (intOf i).toNat)
  case atStart =>
    obtain ⟨d, hd⟩ := lay_ex (lay w [.inl (.cells #[.string t.s, vg, .slice (some ⟨b, o, none⟩) m cap, .int .i64 t.p, .int .i64 t.q, .int .i64 t.r] 182 (0, 0))]) []
    refine ⟨0, d, Nat.zero_le _, rfl, hd, ?_⟩
    rw [show lay w [.inr d, .inl (.cells #[.string t.s, vg, .slice (some ⟨b, o, none⟩) m cap, .int .i64 t.p, .int .i64 t.q, .int .i64 t.r] 182 (0, 0))] = _ from hd.symm]
    exact World.ownsRow_nil _ _ _ _
  case round =>
    obtain ⟨j, d, hj, rfl, rfl, hown⟩ := hrel
    by_cases hlt : j < m
    · have k0 := hcc j hlt
      have x0 : (0 : Int) ≤ (j : Int) := by omega
      have x1 : (j : Int) < (m : Int) := by omega
      have a1 := hb j
      go_wp2_with (at_builtin; refine wpList_push2 rfl _ _ 112 rfl 3 i0 (.int .i64 0) 1 8 Tryz.underlying112 hi hz0 hz1 hz2 rfl (by decide) (lay w [.inl (.cells #[.string t.s, vg, .slice (some ⟨b, o, none⟩) m cap, .int .i64 t.p, .int .i64 t.q, .int .i64 t.r] 182 (0, 0))]) (lay w [.inl (.cells #[.int .i64 (100 * nth t.d j)] 3 (0, 0)), .inr d, .inl (.cells #[.string t.s, vg, .slice (some ⟨b, o, none⟩) m cap, .int .i64 t.p, .int .i64 t.q, .int .i64 t.r] 182 (0, 0))]) #[.int .i64 (100 * nth t.d j)] 3 (posn w [d.n, 1]) _ _ _ (lay_extends (lay w [.inl (.cells #[.string t.s, vg, .slice (some ⟨b, o, none⟩) m cap, .int .i64 t.p, .int .i64 t.q, .int .i64 t.r] 182 (0, 0))]) [.inl (.cells #[.int .i64 (100 * nth t.d j)] 3 (0, 0)), .inr d]) (row_lay hown [.inl (.cells #[.int .i64 (100 * nth t.d j)] 3 (0, 0))]) (lay_get w [.inl (.cells #[.int .i64 (100 * nth t.d j)] 3 (0, 0)), .inr d, .inl (.cells #[.string t.s, vg, .slice (some ⟨b, o, none⟩) m cap, .int .i64 t.p, .int .i64 t.q, .int .i64 t.r] 182 (0, 0))] 0 _ rfl) rfl rfl rfl (by simp [Value.oneCell']) (by unfold maxLen; omega) (by omega) ?_; intro v' d' hown')
      go_roundw
      case rel => exact ⟨j + 1, d', hlt, by go_num, rfl, by rw [dec100_succ]; exact hown'⟩
      case measure => simp [intOf]; omega
    · obtain rfl : j = m := by omega
      go_wp2_with fail
      obtain ⟨dd, hd⟩ := lay_ex w [.inr d, .inl (.cells #[.string t.s, vg, .slice (some ⟨b, o, none⟩) j cap, .int .i64 t.p, .int .i64 t.q, .int .i64 t.r] 182 (0, 0))]
      have hown2 := row_le (base' := w.heap.size) hown (by rw [lay_size]; unfold posn; omega)
      clear hown
      rw [hd] at hown2 ⊢
      go_ret
      exact ⟨_, dd, rfl, rfl, hown2⟩
end Go.Proofs.YtnnmfdeeicpdlaaGreat
/- The reference of layer 14: the arc at an instant. -/
namespace Go.Proofs.YtnnmfdeeicpdlaaGreat
set_option maxHeartbeats 2000000
set_option maxRecDepth 100000
open Go.RowKit

structure Row (w : World) (g : Nat) (f : Nat → Int) : Prop where
  lt : g < w.heap.size
  cell : ∀ k, k < 25 → w.cell? ⟨g, k, none⟩ = some (.int .i64 (f k))
  bd : ∀ i, i ≤ 24 → -1000000000000 ≤ f i ∧ f i ≤ 1000000000000
theorem Row.lay {w : World} {g : Nat} {f : Nat → Int} (h : Row w g f) (L : List (Obj ⊕ Ext)) : Row (lay w L) g f :=
  ⟨Nat.lt_of_lt_of_le h.lt (lay_extends w L).size, fun k hk => ((lay_extends w L).cell (p := ⟨g, k, none⟩) h.lt).trans (h.cell k hk), h.bd⟩
theorem ref14_around (n : Int) (w : World) (h1 : -1099511627776 ≤ n) (h2 : n ≤ 1099511627776) :
    Calls Tryz.prog 309 #[.int .i64 n] w fun e w' => e = .returned (.agg #[.int .i64 (n - 50), .int .i64 (n + 50)]) ∧ ∃ d, w' = bw w d := by
  refine lay_start ?_
  go_enter Tryz.func309, Tryz.ntmps309
  go_wp2
  exact bodyPost_ret (v := (.agg #[.int .i64 (n - 50), .int .i64 (n + 50)])) (by simp [results, Tryz.results309, go_sem]) rfl ⟨rfl, lay_ex _ _⟩
theorem ref14_wider (x y n : Int) (w : World) (h0 : validB x y = true) (h1 : 0 ≤ n) (h2 : n ≤ 100000) :
    Calls Tryz.prog 310 #[(.agg #[.int .i64 (x), .int .i64 (y)]), .int .i64 n] w fun e w' => e = .returned (.agg #[.int .i64 (x - n), .int .i64 (y + n)]) ∧ ∃ d, w' = bw w d := by
  obtain ⟨g1, g2, g3⟩ := validB_iff.1 h0
  clear h0
  refine lay_start ?_
  go_enter Tryz.func310, Tryz.ntmps310
  go_wp2
  exact bodyPost_ret (v := (.agg #[.int .i64 (x - n), .int .i64 (y + n)])) (by simp [results, Tryz.results310, go_sem]) rfl ⟨rfl, lay_ex _ _⟩
theorem ref14_at (f : Nat → Int) (g cap : Nat) (ms : Int) (w : World) (hr : Row w g f) (h0 : 0 ≤ ms) (h1 : ms ≤ 86400000) :
    Calls Tryz.prog 308 #[.slice (some ⟨g, 0, none⟩) 25 cap, .int .i64 ms] w fun e w' => e = .returned (.agg #[.int .i64 (insL (arcA f) ms), .int .i64 (insH (arcA f) ms)]) ∧ ∃ d, w' = bw w d := by
  obtain ⟨k, hk⟩ := Int.eq_ofNat_of_zero_le (show 0 ≤ ms / 3600000 by omega)
  have hk24 : k ≤ 24 := by omega
  have hgs := hr.lt
  have c0 := hr.cell k (by omega)
  have f0 := hr.bd k hk24
  have b1 : (0 : Int) ≤ (k : Int) := by omega
  have b2 : (k : Int) < 25 := by omega
  by_cases hrm : ms % 3600000 = 0
  · have e : insL (arcA f) ms = f k - 50 ∧ insH (arcA f) ms = f k + 50 := by unfold insL insH; rw [if_pos hrm, if_pos hrm, hk, arcA_at f k hk24]; exact ⟨rfl, rfl⟩
    rw [e.1, e.2]
    have hq : (ms % 3600000 == 0) = true := beq_iff_eq.2 hrm
    clear e hrm
    refine lay_start ?_
    go_enter Tryz.func308, Tryz.ntmps308
    go_wp2_with (go_at_call 309; refine (ref14_around _ _ (by omega) (by omega)).mono ?_; rintro e w' ⟨rfl, d, rfl⟩)
    exact bodyPost_ret (v := (.agg #[.int .i64 (f k - 50), .int .i64 (f k + 50)])) (by simp [results, Tryz.results308, go_sem]) rfl ⟨rfl, lay_ex _ _⟩
  · have hk23 : k < 24 := by omega
    have e : insL (arcA f) ms = linLo (f k - 50) (f (k + 1) - 50) (ms % 3600000) 3600000 ∧ insH (arcA f) ms = linHi (f k + 50) (f (k + 1) + 50) (ms % 3600000) 3600000 := by
      unfold insL insH; rw [if_neg hrm, if_neg hrm, hk, arcA_at f k hk24, show (k : Int) + 1 = ((k + 1 : Nat) : Int) by omega, arcA_at f (k + 1) (by omega)]; exact ⟨rfl, rfl⟩
    rw [e.1, e.2]
    have hq : (ms % 3600000 == 0) = false := beq_eq_false_iff_ne.2 hrm
    have c1 := hr.cell (k + 1) (by omega)
    have f1 := hr.bd (k + 1) (by omega)
    have b3 : (0 : Int) ≤ (k : Int) + 1 := by omega
    have b4 : (k : Int) + 1 < 25 := by omega
    have b5 : ((k : Int) + 1).toNat = k + 1 := by omega
    have hw1 : IntKind.i64.wrap ((k : Int) + 1) = (k : Int) + 1 := IntWalk.i64_in _ (by omega)
    have r0 : 0 ≤ ms % 3600000 ∧ ms % 3600000 < 3600000 := by omega
    have LK : LinOk (f k - 50) (f k + 50) (f (k + 1) - 50) (f (k + 1) + 50) (ms % 3600000) 3600000 := by constructor <;> omega
    have HL := Lib.hid (fun W => ref14_Linear _ _ _ _ _ _ W LK)
    have HA1 := Lib.hid (fun W => ref14_around (f k) W (by omega) (by omega))
    have HA2 := Lib.hid (fun W => ref14_around (f (k + 1)) W (by omega) (by omega))
    clear e hrm LK
    refine lay_start ?_
    go_enter Tryz.func308, Tryz.ntmps308
    go_wp2_with fail
    refine region_bw_tail 13 (by kernel_rfl) (by kernel_rfl) ?_
    simp only [List.take_succ_cons, List.take_zero, List.drop_succ_cons, List.drop_zero]
    repeat (go_big_quiet_step ((first | (go_at_call 309; first | (with_reducible refine bq (HA1.out _) ?_; exact (fun d => lay_join _ _ _ d)) | (with_reducible refine bq (HA2.out _) ?_; exact (fun d => lay_join _ _ _ d))) | (go_at_call 342; with_reducible refine bq (HL.out _) ?_; exact (fun d => lay_join _ _ _ d)))))
    refine wpQuiet_nil ?_
    rintro w' ⟨d, rfl⟩
    rw [lay_bw]
    go_wp2
    exact bodyPost_ret (v := (.agg #[.int .i64 (linLo (f k - 50) (f (k + 1) - 50) (ms % 3600000) 3600000), .int .i64 (linHi (f k + 50) (f (k + 1) + 50) (ms % 3600000) 3600000)])) (by simp [results, Tryz.results308, go_sem]) rfl ⟨rfl, lay_ex _ _⟩
end Go.Proofs.YtnnmfdeeicpdlaaGreat
/- The reference of layer 14: Over. -/
namespace Go.Proofs.YtnnmfdeeicpdlaaGreat
open Go.RowKit

def cnt (lo hi : Int) (h : Nat) : Nat := min (h - (lo / 3600000 + 1).toNat) (nhr lo hi)
def hulF (A : Int → Int × Int) (lo hi : Int) (h : Nat) : Int × Int := (hrs A (lo / 3600000 + 1) (cnt lo hi h)).foldl hull2 (hull2 (insL A lo, insH A lo) (insL A hi, insH A hi))
theorem hulF_end (A : Int → Int × Int) (lo hi : Int) (l0 : 0 ≤ lo) (h1 : hi ≤ 86400000) : hulF A lo hi 25 = hullL (pcs A lo hi) := by
  have : cnt lo hi 25 = nhr lo hi := by unfold cnt nhr cdiv; omega
  unfold hulF; rw [this]; rfl
theorem hulF_0 (A : Int → Int × Int) (lo hi : Int) : hulF A lo hi 0 = hull2 (insL A lo, insH A lo) (insL A hi, insH A hi) := by
  have : cnt lo hi 0 = 0 := by unfold cnt; omega
  unfold hulF; rw [this]; rfl
theorem hulF_in (A : Int → Int × Int) (lo hi : Int) (h : Nat) (l0 : 0 ≤ lo) (h2 : lo < (h : Int) * 3600000) (h3 : (h : Int) * 3600000 < hi) : hulF A lo hi (h + 1) = hull2 (hulF A lo hi h) (A h) := by
  have e1 : cnt lo hi (h + 1) = cnt lo hi h + 1 := by unfold cnt nhr cdiv; omega
  have e2 : lo / 3600000 + 1 + (cnt lo hi h : Int) = h := by unfold cnt nhr cdiv; omega
  unfold hulF
  rw [e1, hrs_succ, List.foldl_append, e2]
  rfl
theorem hulF_out (A : Int → Int × Int) (lo hi : Int) (h : Nat) (l0 : 0 ≤ lo) (h2 : ¬ (lo < (h : Int) * 3600000 ∧ (h : Int) * 3600000 < hi)) : hulF A lo hi (h + 1) = hulF A lo hi h := by
  have e1 : cnt lo hi (h + 1) = cnt lo hi h := by unfold cnt nhr cdiv; omega
  unfold hulF; rw [e1]

set_option maxHeartbeats 4000000 in
set_option maxRecDepth 100000 in
theorem ref14_Over (f : Nat → Int) (g cap : Nat) (lo hi r : Int) (w : World) (hr : Row w g f) (l0 : 0 ≤ lo) (l1 : lo ≤ 86400000) (h0 : 0 ≤ hi) (h1 : hi ≤ 86400000) (r0 : 0 ≤ r) (r1 : r ≤ 1000) :
    Calls Tryz.prog 253 #[.slice (some ⟨g, 0, none⟩) 25 cap, .int .i64 lo, .int .i64 hi, .int .i64 (cdiv (100 * r) 8)] w fun e w' => e = .returned (.agg #[.int .i64 ((ovr (arcA f) lo hi r).1), .int .i64 ((ovr (arcA f) lo hi r).2)]) ∧ ∃ d, w' = bw w d := by
  have HR := Lib.hid hr
  have HA1 := Lib.hid (fun L => ref14_at f g cap lo (lay w L) (hr.lay L) l0 l1)
  have HA2 := Lib.hid (fun L => ref14_at f g cap hi (lay w L) (hr.lay L) h0 h1)
  have hgs := hr.lt
  clear hr
  obtain ⟨m, hm⟩ : ∃ m, cdiv (100 * r) 8 = m := ⟨_, rfl⟩
  have m0 : 0 ≤ m ∧ m ≤ 12500 := by rw [← hm]; unfold cdiv; omega
  have HO : ovr (arcA f) lo hi r = if lo = hi ∧ lo % 3600000 = 0 then hullL (pcs (arcA f) lo hi) else ((hullL (pcs (arcA f) lo hi)).1 - m, (hullL (pcs (arcA f) lo hi)).2 + m) := by unfold ovr; rw [hm]
  rw [HO, hm]
  clear HO hm r0 r1
  refine lay_start ?_
  go_enter Tryz.func253, Tryz.ntmps253
  go_wp2_with (first | (go_at_call 308; first | (with_reducible refine (HA1.out _).mono ?_; rintro e w' ⟨rfl, da, rfl⟩) | (with_reducible refine (HA2.out _).mono ?_; rintro e w' ⟨rfl, db, rfl⟩)) | (go_at_call 149; refine (ref05_Hull _ _ _ _ _).mono ?_; rintro e w' ⟨rfl, dc, rfl⟩))
  clear HA1 HA2
  go_loopw [10] (fun hv wr => ∃ (h : Nat) (e : Ext), h ≤ 25 ∧ hv = .int .i64 h ∧ wr = lay w [.inr e, .inl (.cells #[.int .i64 (hulF (arcA f) lo hi h).1, .int .i64 (hulF (arcA f) lo hi h).2] 23 (0, 0)), .inr dc, .inr db, .inr da, .inl (.cells #[.int .i64 0, .int .i64 0] 23 (0, 0))]) (fun hv _ => 25 - (intOf hv).toNat)
  case atStart => exact ⟨0, noExt _, by decide, rfl, by rw [hulF_0]; simp only [hull2, ← mn_eq, ← mx_eq]; exact (bw_noExt _).symm⟩
  case round =>
    obtain ⟨h, de, hh, rfl, rfl⟩ := hrel
    by_cases hlt : h < 25
    · have y0 : (0 : Int) ≤ (h : Int) := by omega
      have y1 : (h : Int) < 25 := by omega
      have y2 : IntKind.i64.wrap ((h : Int) * 3600000) = (h : Int) * 3600000 := IntWalk.i64_in _ (by omega)
      by_cases hc : lo < (h : Int) * 3600000
      · by_cases hc2 : (h : Int) * 3600000 < hi
        · have c0 := HR.out.cell h hlt
          have f0 := HR.out.bd h (by omega)
          have HNX := Lib.hid (hulF_in (arcA f) lo hi h l0 hc hc2)
          obtain ⟨O, hO⟩ : ∃ O, hulF (arcA f) lo hi h = O := ⟨_, rfl⟩
          rw [hO] at HNX ⊢
          go_wp2_with fail
          refine region_bw_tail 7 (by kernel_rfl) (by kernel_rfl) ?_
          simp only [List.take_succ_cons, List.take_zero, List.drop_succ_cons, List.drop_zero]
          repeat (go_big_quiet_step ((first | (go_at_call 309; refine bq (ref14_around _ _ (by omega) (by omega)) ?_; exact (fun d => lay_join _ _ _ d)) | (go_at_call 149; refine bq (ref05_Hull _ _ _ _ _) ?_; exact (fun d => lay_join _ _ _ d)))))
          refine wpQuiet_nil ?_
          rintro w' ⟨d, rfl⟩
          rw [lay_bw]
          go_wp2
          go_roundw
          case rel =>
            obtain ⟨e2, he2⟩ := lay_fold w [.inr d, .inr de] [.inl (.cells #[.int .i64 (mn O.1 (f h - 50)), .int .i64 (mx O.2 (f h + 50))] 23 (0, 0)), .inr dc, .inr db, .inr da, .inl (.cells #[.int .i64 0, .int .i64 0] 23 (0, 0))]
            refine ⟨h + 1, e2, hlt, by go_num, ?_⟩
            rw [HNX.out, arcA_at f h (by omega)]
            simp only [hull2, ← mn_eq, ← mx_eq]
            exact he2
          case measure => simp [intOf]; omega
        · go_wp2
          go_roundw
          case rel => exact ⟨h + 1, de, hlt, by go_num, by rw [hulF_out _ _ _ _ l0 (fun e => hc2 e.2)]⟩
          case measure => simp [intOf]; omega
      · go_wp2
        go_roundw
        case rel => exact ⟨h + 1, de, hlt, by go_num, by rw [hulF_out _ _ _ _ l0 (fun e => hc e.1)]⟩
        case measure => simp [intOf]; omega
    · obtain rfl : h = 25 := by omega
      have hv : validB (hullL (pcs (arcA f) lo hi)).1 (hullL (pcs (arcA f) lo hi)).2 = true := by
        have := pcs_in (arcA_in HR.out.bd) lo hi
        rw [validB_iff]; omega
      obtain ⟨O, hO⟩ : ∃ O, hullL (pcs (arcA f) lo hi) = O := ⟨_, rfl⟩
      rw [hulF_end _ _ _ l0 h1, hO]
      rw [hO] at hv
      by_cases hq : lo = hi ∧ lo % 3600000 = 0
      · obtain ⟨q1, q2⟩ := hq
        subst q1
        have q3 : (lo % 3600000 == 0) = true := beq_iff_eq.2 q2
        go_wp2
        exact bodyPost_ret (v := (.agg #[.int .i64 (O.1), .int .i64 (O.2)])) (by simp [results, Tryz.results253, go_sem]) rfl ⟨by first | rfl | rw [if_pos ⟨rfl, q2⟩, hO], lay_ex _ _⟩
      · have HW := Lib.hid (fun W => ref14_wider O.1 O.2 m W hv m0.1 (by omega))
        clear hv
        by_cases hq1 : lo = hi
        · subst hq1
          have q3 : (lo % 3600000 == 0) = false := beq_eq_false_iff_ne.2 fun e => hq ⟨rfl, e⟩
          go_wp2_with (go_at_call 310; refine (HW.out _).mono ?_; rintro e w' ⟨rfl, d, rfl⟩)
          exact bodyPost_ret (v := (.agg #[.int .i64 (O.1 - m), .int .i64 (O.2 + m)])) (by simp [results, Tryz.results253, go_sem]) rfl ⟨by first | rfl | rw [if_neg (fun e => by rw [e.2] at q3; cases q3), hO], lay_ex _ _⟩
        · have q3 : (lo == hi) = false := beq_eq_false_iff_ne.2 hq1
          go_wp2_with (go_at_call 310; refine (HW.out _).mono ?_; rintro e w' ⟨rfl, d, rfl⟩)
          exact bodyPost_ret (v := (.agg #[.int .i64 (O.1 - m), .int .i64 (O.2 + m)])) (by simp [results, Tryz.results253, go_sem]) rfl ⟨by first | rfl | rw [if_neg (fun e => hq1 e.1), hO], lay_ex _ _⟩
end Go.Proofs.YtnnmfdeeicpdlaaGreat
/- The reference of layer 14: Margin, Gha, Dec. -/
namespace Go.Proofs.YtnnmfdeeicpdlaaGreat
set_option maxHeartbeats 4000000
set_option maxRecDepth 100000
open Go.RowKit

theorem Row.cons {w : World} {g : Nat} {f : Nat → Int} {L : List (Obj ⊕ Ext)} (h : Row (Go.Proofs.YtnnmfdeeicpdlaaGreat.lay w L) g f) (d : Ext) : Row (Go.Proofs.YtnnmfdeeicpdlaaGreat.lay w (.inr d :: L)) g f := h.lay [.inr d]
theorem row_of {w : World} {base g cap : Nat} {e : TypeId} {xs : List Value} {f : Nat → Int} (h : w.ownsRow base e 1 (.slice (some ⟨g, 0, none⟩) 25 cap) 25 xs) (hx : ∀ k, k < 25 → xs[k]? = some (.int .i64 (f k)))
    (hb : ∀ i, i ≤ 24 → -1000000000000 ≤ f i ∧ f i ≤ 1000000000000) : Row w g f :=
  ⟨(h.lt g rfl).2, fun k hk => (h.cellAt k (by omega)).trans (hx k hk), hb⟩
theorem ref14_Margin (v : Value) (t : TrkV) (w : World) (hv : Trk w v t) (hg : GD t) :
    Calls Tryz.prog 255 #[v] w fun e w' => e = .returned (.int .i64 (cdiv (100 * t.r) 8)) ∧ ∃ d, w' = bw w d := by
  obtain ⟨vg, vd, hvv, -⟩ := id hv
  subst hvv
  have r0 := hg.r0
  have r1 := hg.r1
  clear hv hg
  refine lay_start ?_
  go_enter Tryz.func255, Tryz.ntmps255
  go_wp2_with (go_at_call 311; refine (ref05_Ceil _ _ _ (by omega) (by omega) (by omega)).mono ?_; rintro e w' ⟨rfl, rfl⟩)
  go_ret
  exact ⟨rfl, lay_ex _ _⟩
theorem ref13_Latitude (x y : Int) (w : World) :
    Calls Tryz.prog 205 #[(.agg #[.int .i64 (x), .int .i64 (y)])] w fun e w' => e = .returned (.agg #[.int .i64 (mx x (-5400000)), .int .i64 (mn y 5400000)]) ∧ ∃ d, w' = bw w d := by
  refine lay_start ?_
  go_enter Tryz.func205, Tryz.ntmps205
  go_wp2_with (go_at_call 138; refine (ref05_Meet _ _ _ _ _).mono ?_; rintro e w' ⟨rfl, d, rfl⟩)
  exact bodyPost_ret (v := (.agg #[.int .i64 (mx x (-5400000)), .int .i64 (mn y 5400000)])) (by simp [results, Tryz.results205, go_sem]) rfl ⟨rfl, lay_ex _ _⟩
theorem turn_cond {x y : Int} (h : validB x y = true) : -4611686018427387904 ≤ x ∧ x ≤ y ∧ y ≤ 4611686018427387903 := by
  have := validB_iff.1 h; omega

theorem ref14_Gha (v : Value) (t : TrkV) (lo hi : Int) (w : World) (hv : Trk w v t) (hg : GD t) (l0 : 0 ≤ lo) (l1 : lo ≤ 86400000) (h0 : 0 ≤ hi) (h1 : hi ≤ 86400000) :
    Calls Tryz.prog 209 #[v, .int .i64 lo, .int .i64 hi] w fun e w' => e = .returned (.agg #[.int .i64 (turnLo (ghaO t lo hi).1 (ghaO t lo hi).2), .int .i64 (turnHi (ghaO t lo hi).1 (ghaO t lo hi).2)]) ∧ ∃ d, w' = bw w d := by
  obtain ⟨vg, vd, hvv, -⟩ := id hv
  subst hvv
  have HV := Lib.hid (fun L => hv.lay L)
  have HG := Lib.hid hg
  have HM := Lib.hid (fun L => ref14_Margin _ t (lay w L) (hv.lay L) hg)
  have HVD := Lib.hid (ghaO_valid hg lo hi)
  refine lay_start ?_
  go_enter Tryz.func209, Tryz.ntmps209
  go_wp2_with fail
  refine region_mixP [(0, 0), (2, 0), (3, 0), (4, 0), (1, 1), (5, 0)] (by kernel_rfl) (by kernel_rfl) (by kernel_rfl) (by kernel_rfl) (by decide) (by kernel_rfl) ?_
  simp only [List.drop_succ_cons, List.drop_zero, List.length_cons, List.length_nil, Nat.reduceAdd]
  iterate 4 (refine wpMP_quiet rfl (fun K hK => ?_); go_simp; refine hK _ ?_; clear hK K)
  refine wpMP_special rfl (fun K hK d0 => ?_)
  go_simp
  refine (ref14_Unwrapped _ t _ (HV.out _) (by rw [HG.out.lg]; decide) (by rw [HG.out.lg]; decide) HG.out.bg).mono ?_
  rintro e w' ⟨v', da, rfl, rfl, hown⟩
  rw [HG.out.lg] at hown
  obtain ⟨g, cp, rfl⟩ := row_form hown (by decide)
  have hR : Row (lay w [.inr da, .inr d0, .inl (.cells #[.int .i64 0, .int .i64 0] 23 (0, 0)), .inl (.cells #[.string t.s, vg, vd, .int .i64 t.p, .int .i64 t.q, .int .i64 t.r] 182 (0, 0))]) g (ang t.g) := row_of hown (fun k hk => angs_get _ _ _ hk) (ang_ok HG.out)
  clear hown
  refine ⟨_, rfl, ?_⟩
  go_simp
  refine hK _ _ (lay_in w [_, _] _) ?_
  clear hK K
  refine wpMP_quiet rfl (fun K hK => ?_)
  go_simp
  apply Exists.intro
  refine ⟨fun _ => ?_, hK _ ?_⟩
  · exact bq (HM.out _) (fun d => ⟨d, rfl⟩)
  clear hK K
  refine wpMP_nil ?_
  intro d1
  rw [lay_bw]
  have HO := Lib.hid (fun x => ref14_Over (ang t.g) g cp lo hi t.r _ (hR.cons x) l0 l1 h0 h1 HG.out.r0 HG.out.r1)
  rw [show ovr (arcA (ang t.g)) lo hi t.r = ghaO t lo hi from rfl] at HO
  obtain ⟨O, hO⟩ : ∃ O, ghaO t lo hi = O := ⟨_, rfl⟩
  rw [hO] at HVD HO
  clear hR
  go_wp2_with (first | (go_at_call 253; refine (HO.out _).mono ?_; rintro e w' ⟨rfl, d, rfl⟩) | (go_at_call 90; refine (ref05_Turn _ _ _ (turn_cond HVD.out).1 (turn_cond HVD.out).2.1 (turn_cond HVD.out).2.2).mono ?_; rintro e w' ⟨rfl, d, rfl⟩))
  exact bodyPost_ret (v := (.agg #[.int .i64 (turnLo O.1 O.2), .int .i64 (turnHi O.1 O.2)])) (by simp [results, Tryz.results209, go_sem]) rfl ⟨by rw [hO], lay_ex _ _⟩

theorem ref14_Dec (v : Value) (t : TrkV) (lo hi : Int) (w : World) (hv : Trk w v t) (hg : GD t) (l0 : 0 ≤ lo) (l1 : lo ≤ 86400000) (h0 : 0 ≤ hi) (h1 : hi ≤ 86400000) :
    Calls Tryz.prog 210 #[v, .int .i64 lo, .int .i64 hi] w fun e w' => e = .returned (.agg #[.int .i64 (mx (decO t lo hi).1 (-5400000)), .int .i64 (mn (decO t lo hi).2 5400000)]) ∧ ∃ d, w' = bw w d := by
  obtain ⟨vg, vd, hvv, -⟩ := id hv
  subst hvv
  have HV := Lib.hid (fun L => hv.lay L)
  have HG := Lib.hid hg
  have HM := Lib.hid (fun L => ref14_Margin _ t (lay w L) (hv.lay L) hg)
  refine lay_start ?_
  go_enter Tryz.func210, Tryz.ntmps210
  go_wp2_with fail
  refine region_mixP [(0, 0), (2, 0), (3, 0), (4, 0), (1, 1), (5, 0)] (by kernel_rfl) (by kernel_rfl) (by kernel_rfl) (by kernel_rfl) (by decide) (by kernel_rfl) ?_
  simp only [List.drop_succ_cons, List.drop_zero, List.length_cons, List.length_nil, Nat.reduceAdd]
  iterate 4 (refine wpMP_quiet rfl (fun K hK => ?_); go_simp; refine hK _ ?_; clear hK K)
  refine wpMP_special rfl (fun K hK d0 => ?_)
  go_simp
  refine (ref14_Declinations _ t _ (HV.out _) (by rw [HG.out.ld]; decide) (by rw [HG.out.ld]; decide) HG.out.bd).mono ?_
  rintro e w' ⟨v', da, rfl, rfl, hown⟩
  rw [HG.out.ld] at hown
  obtain ⟨g, cp, rfl⟩ := row_form hown (by decide)
  have hR : Row (lay w [.inr da, .inr d0, .inl (.cells #[.int .i64 0, .int .i64 0] 23 (0, 0)), .inl (.cells #[.string t.s, vg, vd, .int .i64 t.p, .int .i64 t.q, .int .i64 t.r] 182 (0, 0))]) g (dcl t.d) := row_of hown (fun k hk => by simp [dec100, dcl, hk]) (dcl_ok HG.out)
  clear hown
  refine ⟨_, rfl, ?_⟩
  go_simp
  refine hK _ _ (lay_in w [_, _] _) ?_
  clear hK K
  refine wpMP_quiet rfl (fun K hK => ?_)
  go_simp
  apply Exists.intro
  refine ⟨fun _ => ?_, hK _ ?_⟩
  · exact bq (HM.out _) (fun d => ⟨d, rfl⟩)
  clear hK K
  refine wpMP_nil ?_
  intro d1
  rw [lay_bw]
  have HO := Lib.hid (fun x => ref14_Over (dcl t.d) g cp lo hi t.r _ (hR.cons x) l0 l1 h0 h1 HG.out.r0 HG.out.r1)
  rw [show ovr (arcA (dcl t.d)) lo hi t.r = decO t lo hi from rfl] at HO
  obtain ⟨O, hO⟩ : ∃ O, decO t lo hi = O := ⟨_, rfl⟩
  rw [hO] at HO
  clear hR
  go_wp2_with (first | (go_at_call 253; refine (HO.out _).mono ?_; rintro e w' ⟨rfl, d, rfl⟩) | (go_at_call 205; refine (ref13_Latitude _ _ _).mono ?_; rintro e w' ⟨rfl, d, rfl⟩))
  exact bodyPost_ret (v := (.agg #[.int .i64 (mx O.1 (-5400000)), .int .i64 (mn O.2 5400000)])) (by simp [results, Tryz.results210, go_sem]) rfl ⟨by rw [hO], lay_ex _ _⟩
end Go.Proofs.YtnnmfdeeicpdlaaGreat
/- Hulls, sizes, joins; where the body of a track is on a day: the program's and the reference's. -/
namespace Go.Proofs.YtnnmfdeeicpdlaaGreat
set_option maxHeartbeats 4000000
open Go.RowKit Go.Shelf

theorem alm_hull (x0 y0 x1 y1 : Int) (w : World) :
    Calls Tryz.prog 193 #[(.agg #[.int .i64 (x0), .int .i64 (y0)]), (.agg #[.int .i64 (x1), .int .i64 (y1)])] w fun e w' => e = .returned (.agg #[.int .i64 (mn x0 x1), .int .i64 (mx y0 y1)]) ∧ ∃ d, w' = bw w d := by
  refine lay_start ?_
  go_enter Tryz.func193, Tryz.ntmps193
  go_wp2
  all_goals exact bodyPost_ret (v := (.agg #[.int .i64 (mn x0 x1), .int .i64 (mx y0 y1)])) (by simp [results, Tryz.results193, go_sem]) rfl ⟨rfl, lay_ex _ _⟩
theorem alm_positive (x y : Int) (w : World) :
    Calls Tryz.prog 243 #[(.agg #[.int .i64 (x), .int .i64 (y)])] w fun e w' => e = .returned (.agg #[.int .i64 (mx 0 x), .int .i64 (mx 0 y)]) ∧ ∃ d, w' = bw w d := by
  refine lay_start ?_
  go_enter Tryz.func243, Tryz.ntmps243
  go_wp2
  all_goals exact bodyPost_ret (v := (.agg #[.int .i64 (mx 0 x), .int .i64 (mx 0 y)])) (by simp [results, Tryz.results243, go_sem]) rfl ⟨rfl, lay_ex _ _⟩
structure TF (a b : Int) : Prop where
  h0 : 0 ≤ a
  h1 : a ≤ 21600000
  h2 : a ≤ b
  h3 : b ≤ a + 21600000
theorem tf_turn {x y : Int} (h : x ≤ y) : TF (turnLo x y) (turnHi x y) := by have := turn_bd h; constructor <;> omega
theorem sgn_bd (n : Int) : -10800000 ≤ sgnI n ∧ sgnI n < 10800000 := by unfold sgnI; omega
theorem hul_valid {a b c d : Int} (h : TF a b) (k : TF c d) : validB (hulL a c) (hulH a b c d) = true := by
  have := sgn_bd (c - a)
  obtain ⟨h0, h1, h2, h3⟩ := h
  obtain ⟨k0, k1, k2, k3⟩ := k
  unfold hulL hulH
  rw [mn_eq, mx_eq, validB_iff]; omega
theorem alm_join (a b c d : Int) (w : World) (h : TF a b) (k : TF c d) :
    Calls Tryz.prog 192 #[(.agg #[.int .i64 (a), .int .i64 (b)]), (.agg #[.int .i64 (c), .int .i64 (d)])] w fun e w' => e = .returned (.tuple #[(.agg #[.int .i64 (turnLo (hulL a c) (hulH a b c d)), .int .i64 (turnHi (hulL a c) (hulH a b c d))]), .int .i64 0]) ∧ ∃ d, w' = bw w d := by
  have HV := Lib.hid (hul_valid h k)
  have HT := Lib.hid (fun W => angle_Turn _ _ W HV.out)
  have HS := Lib.hid (fun W => angle_Sgn (c - a) W)
  have hb := sgn_bd (c - a)
  obtain ⟨h0, h1, h2, h3⟩ := h
  obtain ⟨k0, k1, k2, k3⟩ := k
  generalize turnLo (hulL a c) (hulH a b c d) = p at *
  generalize turnHi (hulL a c) (hulH a b c d) = q at *
  unfold hulL hulH at HT
  clear HV
  generalize sgnI (c - a) = s at *
  have q1 : IntKind.i64.wrap (c - a) = c - a := IntWalk.i64_in _ (by omega)
  have q2 : IntKind.i64.wrap (a + s) = a + s := IntWalk.i64_in _ (by omega)
  refine lay_start ?_
  go_enter Tryz.func192, Tryz.ntmps192
  go_wp2_with fail
  refine region_bw (by kernel_rfl) (by kernel_rfl) ?_
  repeat (go_big_quiet_step ((first | (go_at_call 244; exact bqs (HS.out _) ⟨_, rfl⟩))))
  refine wpQuiet_nil ?_
  rintro w' ⟨d, rfl⟩
  rw [lay_bw]
  go_wp2_with (first | (go_at_call 193; refine (alm_hull _ _ _ _ _).mono ?_; rintro e w' ⟨rfl, d, rfl⟩) | (go_at_call 21; refine (HT.out _).mono ?_; rintro e w' ⟨rfl, d, rfl⟩))
  all_goals exact bodyPost_ret (v := .tuple #[(.agg #[.int .i64 (p), .int .i64 (q)]), .int .i64 0]) (by simp [results, Tryz.results192, go_sem]) rfl ⟨rfl, lay_ex _ _⟩
theorem ref17_Join (a b c d : Int) (w : World) (h : TF a b) (k : TF c d) :
    Calls Tryz.prog 148 #[(.agg #[.int .i64 (a), .int .i64 (b)]), (.agg #[.int .i64 (c), .int .i64 (d)])] w fun e w' => e = .returned (.agg #[.int .i64 (turnLo (hulL a c) (hulH a b c d)), .int .i64 (turnHi (hulL a c) (hulH a b c d))]) ∧ ∃ d, w' = bw w d := by
  have HV := validB_iff.1 (hul_valid h k)
  have HT := Lib.hid (fun W => ref05_Turn (hulL a c) (hulH a b c d) W (by omega) (by omega) (by omega))
  have HS := Lib.hid (fun W => ref05_Wrap (c - a + 10800000) W)
  have hb := sgn_bd (c - a)
  have he : (c - a + 10800000) % 21600000 = sgnI (c - a) + 10800000 := by unfold sgnI; omega
  obtain ⟨h0, h1, h2, h3⟩ := h
  obtain ⟨k0, k1, k2, k3⟩ := k
  generalize turnLo (hulL a c) (hulH a b c d) = p at *
  generalize turnHi (hulL a c) (hulH a b c d) = q at *
  rw [he] at HS
  unfold hulL hulH at HT
  clear HV he
  generalize sgnI (c - a) = s at *
  have q0 : IntKind.i64.wrap (a - 10800000) = a - 10800000 := IntWalk.i64_in _ (by omega)
  have q1 : IntKind.i64.wrap (c - a) = c - a := IntWalk.i64_in _ (by omega)
  have q3 : IntKind.i64.wrap (c - a + 10800000) = c - a + 10800000 := IntWalk.i64_in _ (by omega)
  have q2 : IntKind.i64.wrap (a - 10800000 + (s + 10800000)) = a + s := by rw [IntWalk.i64_in _ (by omega)]; omega
  refine lay_start ?_
  go_enter Tryz.func148, Tryz.ntmps148
  go_wp2_with fail
  refine region_bw (by kernel_rfl) (by kernel_rfl) ?_
  repeat (go_big_quiet_step ((first | (go_at_call 177; exact bqs (HS.out _) ⟨_, rfl⟩))))
  refine wpQuiet_nil ?_
  rintro w' ⟨d, rfl⟩
  rw [lay_bw]
  go_wp2_with (first | (go_at_call 149; refine (ref05_Hull _ _ _ _ _).mono ?_; rintro e w' ⟨rfl, d, rfl⟩) | (go_at_call 90; refine (HT.out _).mono ?_; rintro e w' ⟨rfl, d, rfl⟩))
  all_goals exact bodyPost_ret (v := (.agg #[.int .i64 (p), .int .i64 (q)])) (by simp [results, Tryz.results148, go_sem]) rfl ⟨rfl, lay_ex _ _⟩
theorem ref17_size (n : Int) (w : World) (h0 : 0 ≤ n) (h1 : n ≤ 1000000) :
    Calls Tryz.prog 211 #[.int .i64 n] w fun e w' => e = .returned (.agg #[.int .i64 (szL n), .int .i64 (szH n)]) ∧ ∃ d, w' = bw w d := by
  have HA := Lib.hid (fun W => ref13_Around n W (by omega) (by omega))
  refine lay_start ?_
  go_enter Tryz.func211, Tryz.ntmps211
  go_wp2_with (go_at_call 143; refine (HA.out _).mono ?_; rintro e w' ⟨rfl, d, rfl⟩)
  all_goals exact bodyPost_ret (v := (.agg #[.int .i64 (szL n), .int .i64 (szH n)])) (by simp [results, Tryz.results211, go_sem, szL, szH, mx]; omega) rfl ⟨rfl, lay_ex _ _⟩
structure SzOk (t : TrkV) : Prop where
  p0 : 0 ≤ t.p
  p1 : t.p ≤ 1000
  q0 : 0 ≤ t.q
  q1 : t.q ≤ 1000
theorem szOk_of {t : TrkV} (h : trkB t = true) : SzOk t := by
  have := (trkB_iff.1 h)
  have b1 := in_nth this.bp (by decide) (by decide) 0
  have b2 := in_nth this.bq (by decide) (by decide) 0
  change 0 ≤ t.p ∧ t.p ≤ 200 at b1
  change 0 ≤ t.q ∧ t.q ≤ 620 at b2
  constructor <;> omega
set_option maxRecDepth 100000 in
theorem ref17_span (v : Value) (t : TrkV) (lo hi : Int) (w : World) (hv : Trk w v t) (ht : trkB t = true) (l0 : 0 ≤ lo) (l1 : lo ≤ hi) (h1 : hi ≤ 86400000) :
    Calls Tryz.prog 147 #[v, .int .i64 lo, .int .i64 hi] w fun e w' => e = .returned (gv (spanV t lo hi)) ∧ ∃ d, w' = bw w d := by
  have hg := gd_of ht
  obtain ⟨s0, s1, s2, s3⟩ := szOk_of ht
  have HG := Lib.hid (fun L => ref14_Gha v t lo hi (lay w L) (hv.lay L) hg l0 (by omega) (by omega) h1)
  have HD := Lib.hid (fun L => ref14_Dec v t lo hi (lay w L) (hv.lay L) hg l0 (by omega) (by omega) h1)
  have HP := Lib.hid (fun W => ref17_size t.p W s0 (by omega))
  have HQ := Lib.hid (fun W => ref17_size t.q W s2 (by omega))
  obtain ⟨vg, vd, hvv, -⟩ := id hv
  subst hvv
  unfold spanV gv
  dsimp only
  generalize turnLo (ghaO t lo hi).1 (ghaO t lo hi).2 = p1 at *
  generalize turnHi (ghaO t lo hi).1 (ghaO t lo hi).2 = p2 at *
  generalize mx (decO t lo hi).1 (-5400000) = p3 at *
  generalize mn (decO t lo hi).2 5400000 = p4 at *
  clear hv ht hg
  generalize t.p = tp at *
  generalize t.q = tq at *
  generalize szL tp = u1 at *
  generalize szH tp = u2 at *
  generalize szL tq = u3 at *
  generalize szH tq = u4 at *
  refine lay_start ?_
  go_enter Tryz.func147, Tryz.ntmps147
  go_wp2_with fail
  refine region_bw_tail 15 (by kernel_rfl) (by kernel_rfl) ?_
  simp only [List.take_succ_cons, List.take_zero, List.drop_succ_cons, List.drop_zero]
  repeat (go_big_quiet_step ((first | (go_at_call 209; exact bq (HG.out _) (fun d => lay_join _ _ _ d)) | (go_at_call 209; exact bq (HG.out _) (fun d => ⟨d, rfl⟩)) | (go_at_call 210; exact bq (HD.out _) (fun d => lay_join _ _ _ d)) | (go_at_call 210; exact bq (HD.out _) (fun d => ⟨d, rfl⟩)) | ((with_reducible refine bq (HP.out _) ?_); exact (fun d => lay_join _ _ _ d)) | ((with_reducible refine bq (HP.out _) ?_); exact (fun d => ⟨d, rfl⟩)) | ((with_reducible refine bq (HQ.out _) ?_); exact (fun d => lay_join _ _ _ d)) | ((with_reducible refine bq (HQ.out _) ?_); exact (fun d => ⟨d, rfl⟩)))))
  refine wpQuiet_nil ?_
  rintro w' ⟨d, rfl⟩
  rw [lay_bw]
  go_wp2_with fail
  all_goals exact bodyPost_ret (v := (.agg #[.int .i64 (p1), .int .i64 (p2), .int .i64 (p3), .int .i64 (p4), .int .i64 (u1), .int .i64 (u2), .int .i64 (u3), .int .i64 (u4)])) (by simp [results, Tryz.results147, go_sem]) rfl ⟨rfl, lay_ex _ _⟩
end Go.Proofs.YtnnmfdeeicpdlaaGreat
/- Where the body of a track is on a day: (*almanac.Book).during, body; the reference's track. -/
namespace Go.Proofs.YtnnmfdeeicpdlaaGreat
set_option maxHeartbeats 2000000
open Go.RowKit Go.Shelf

theorem idxR_pt {α β : Type} (p : α → Bool) (q : β → Bool) : ∀ (l : List α) (m : List β) (k : Nat), l.length = m.length → (∀ (i : Nat) x y, l[i]? = some x → m[i]? = some y → p x = q y) → idxR p l k = idxR q m k
  | [], [], _, _, _ => rfl
  | [], _ :: _, _, h, _ => by simp at h
  | _ :: _, [], _, h, _ => by simp at h
  | x :: l, y :: m, k, h, hp => by
    unfold idxR
    rw [hp 0 x y rfl rfl, idxR_pt p q l m (k + 1) (by simpa using h) (fun i a b ha hb => hp (i + 1) a b (by rw [List.getElem?_cons_succ]; exact ha) (by rw [List.getElem?_cons_succ]; exact hb))]
theorem tksD_idx {P : Nat → Prop} {w : World} {v : Value} {l : List TrkV} (h : TksD P w v l) (s : ByteArray) : ∃ ls : List TkW, SlG tkR w v ls ∧ idxR (fun x => nmB x.s s) ls 0 = fndT l s := by
  obtain ⟨ls, h1, h2, h3, h4⟩ := h
  exact ⟨ls, h1, idxR_pt _ _ ls l 0 h3 fun i x t hx ht => by rw [(h4 i x t hx ht).s]⟩
theorem alm_during1 (x : TkW) (s : ByteArray) (b : Nat) (w : World) (hb : b < w.heap.size) (hc : w.cell? ⟨b, 0, none⟩ = some (.string s)) :
    Calls Tryz.prog 241 #[.agg #[.string x.s, .slice x.ga x.gn x.gc, .slice x.da x.dn x.dc, .int .i64 x.p, .int .i64 x.q, .int .i64 x.r], .pointer (some ⟨b, 0, none⟩)] w fun e w' => e = .returned (.bool (nmB x.s s)) ∧ ∃ d, w' = bw w d := by
  obtain ⟨xs, x1, x2, x3, x4, x5, x6, x7, x8, x9⟩ := x
  dsimp only
  refine lay_start ?_
  go_enter Tryz.func241, Tryz.ntmps241
  go_wp2
  go_ret
  exact ⟨rfl, lay_ex _ _⟩
theorem trkAt_none {lp : List PgV} {s : ByteArray} {n : Int} (h : trkAt lp s n = none) : lp.find? (pgIs n) = none ∨ ∃ p, p ∈ lp ∧ lp.find? (pgIs n) = some p ∧ fndT p.ts s = -1 := by
  unfold trkAt at h
  cases hf : lp.find? (pgIs n) with
  | none => exact .inl rfl
  | some p =>
    rw [hf] at h
    refine .inr ⟨p, List.mem_of_find?_eq_some hf, rfl, ?_⟩
    rcases idxR_cases (fun t : TrkV => nmB t.s s) p.ts with ⟨h1, _⟩ | ⟨i, x, _, _, h3, _⟩
    · exact h1
    · have : p.ts.find? (fun t => nmB t.s s) = none := h
      rw [this] at h3; cases h3
theorem trkAt_some {lp : List PgV} {s : ByteArray} {n : Int} {t : TrkV} (h : trkAt lp s n = some t) : ∃ p, p ∈ lp ∧ lp.find? (pgIs n) = some p ∧ ∃ i : Nat, fndT p.ts s = (i : Int) ∧ p.ts[i]? = some t ∧ nmB t.s s = true := by
  unfold trkAt at h
  cases hf : lp.find? (pgIs n) with
  | none => rw [hf] at h; cases h
  | some p =>
    rw [hf] at h
    refine ⟨p, List.mem_of_find?_eq_some hf, rfl, ?_⟩
    rcases idxR_cases (fun t : TrkV => nmB t.s s) p.ts with ⟨_, h2⟩ | ⟨i, x, h1, h2, h3, h4⟩
    · have : p.ts.find? (fun t => nmB t.s s) = some t := h
      rw [this] at h2; cases h2
    · have : p.ts.find? (fun t => nmB t.s s) = some t := h
      rw [this] at h3; cases h3
      exact ⟨i, h1, h2, h4⟩
set_option maxRecDepth 100000 in
theorem alm_during_no {P : Nat → Prop} (bk : Nat) (vd vp vs : Value) (lp : List PgV) (s : ByteArray) (n lo hi : Int) (w : World) (hB : BkL P w bk vd vp vs lp) (h : trkAt lp s n = none) :
    Calls Tryz.prog 191 #[.pointer (some ⟨bk, 0, none⟩), .string s, .int .i64 n, .int .i64 lo, .int .i64 hi] w fun e w' => e = .returned (.tuple #[gv g0, .int .i64 20]) ∧ ∃ d, w' = bw w d := by
  have HPg := Lib.hid (fun L => alm_page bk vd vp vs lp n w (lay w L) (lay_extends w L) hB)
  rcases trkAt_none h with h1 | ⟨p, hp, h1, h2⟩
  · rw [h1] at HPg
    unfold PgPost at HPg
    clear hB h h1
    refine lay_start ?_
    go_enter Tryz.func191, Tryz.ntmps191
    go_wp2_with (go_at_call 239; refine (HPg.out _).mono ?_; rintro e w' ⟨rfl, d1, rfl⟩)
    exact bodyPost_ret (v := .tuple #[(.agg #[.int .i64 (0), .int .i64 (0), .int .i64 (0), .int .i64 (0), .int .i64 (0), .int .i64 (0), .int .i64 (0), .int .i64 (0)]), .int .i64 20]) (by simp [results, Tryz.results191, go_sem]) rfl ⟨rfl, lay_ex _ _⟩
  · rw [h1] at HPg
    unfold PgPost at HPg
    have HFn := Lib.hid h2
    have eI : ∀ args w, (callFunc 241 args).run Tryz.prog w = .ok (.enter 241 args) w := enters_of Tryz.func241 (by kernel_rfl) rfl
    have HE := Lib.hid eI
    clear hB h h1 h2 eI hp
    refine lay_start ?_
    go_enter Tryz.func191, Tryz.ntmps191
    go_wp2_with fail
    refine (HPg.out _).mono ?_
    rintro e w' ⟨x, rfl, hD, d1, rfl⟩
    rw [lay_bw]
    obtain ⟨ls, hls, hidx⟩ := tksD_idx hD.ts s
    rw [HFn.out] at hidx
    obtain ⟨xa, xc, hxe⟩ := hls.form
    have HIx := Lib.hid (fun L b' (hb : b' < (lay w L).heap.size) (hc : ∀ d, (lay w (.inr d :: L)).cell? ⟨b', 0, none⟩ = some (.string s)) => tk_IndexFunc 241 [.pointer (some ⟨b', 0, none⟩)] (fun x => nmB x.s s) _ ls (lay w L) (hls.lay L) HE.out (fun x _ d =>
      alm_during1 x s b' (lay w (.inr d :: L)) (Nat.lt_of_lt_of_le hb (bw_le _ d)) (hc d) |>.mono fun e w' ⟨h1, d2, h2⟩ => ⟨h1, _, h2.trans (bw_bw _ _ _)⟩))
    rw [hidx] at HIx
    clear hls hidx hD hxe
    go_wp2_with fail
    refine (HIx.out _ _ (by simp only [lay_size, shp, posn, List.sum_cons, List.sum_nil]; omega) (fun d => by simp [go_sem])).mono ?_
    rintro e w' ⟨rfl, d2, rfl⟩
    go_wp2_with fail
    exact bodyPost_ret (v := .tuple #[(.agg #[.int .i64 (0), .int .i64 (0), .int .i64 (0), .int .i64 (0), .int .i64 (0), .int .i64 (0), .int .i64 (0), .int .i64 (0)]), .int .i64 20]) (by simp [results, Tryz.results191, go_sem]) rfl ⟨rfl, lay_ex _ _⟩
end Go.Proofs.YtnnmfdeeicpdlaaGreat

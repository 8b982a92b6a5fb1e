/- Contracts and plain laws, several texts in one: Rf4; Rf6; Rf7; Sgn; Wh0; Wh1 -/
import Derived.Test.YtnnmfdeeicpdlaaGreatProg
import Derived.WalkKit
import Derived.WalkSpells
import Derived.WalkLawsBesides
import Derived.Lib.Hide
import Derived.BigQuiet
import Derived.Deep.RegionWith
import Derived.Test.YtnnmfdeeicpdlaaGreatSAA
import Derived.Test.YtnnmfdeeicpdlaaGreatSAC
import Derived.Test.YtnnmfdeeicpdlaaGreatSAD
import Derived.Test.YtnnmfdeeicpdlaaGreatSAF
import Derived.Test.YtnnmfdeeicpdlaaGreatSAJ
import Derived.Test.YtnnmfdeeicpdlaaGreatSAK
import Derived.Test.YtnnmfdeeicpdlaaGreatSAN
import Derived.Test.YtnnmfdeeicpdlaaGreatSAR
import Derived.Test.YtnnmfdeeicpdlaaGreatSAS
/- The unwrapped hour angles: increments.angles and the reference. -/
namespace Go.Proofs.YtnnmfdeeicpdlaaGreat
open Go.RowKit

theorem info_int4 : (Tryz.prog.info? 3).map (fun i => (i.zero, i.size, i.bytes)) = some (some (.int .i64 0), 1, 8) := by kernel_rfl
theorem row_form {w : World} {base size n : Nat} {e : TypeId} {v : Value} {xs : List Value} (h : w.ownsRow base e size v n xs) (hn : 0 < n) : ∃ g cap, v = .slice (some ⟨g, 0, none⟩) n cap := by
  rcases h.2 with ⟨_, h0⟩ | ⟨g, cap, _, h1, _⟩
  · omega
  · exact ⟨g, cap, h1⟩
theorem row_le {w : World} {base base' size n : Nat} {e : TypeId} {v : Value} {xs : List Value} (h : w.ownsRow base e size v n xs) (hb : base' ≤ base) : w.ownsRow base' e size v n xs :=
  ⟨h.1, h.2.imp id fun ⟨g, cap, cur, h1, h2, h3⟩ => ⟨g, cap, cur, h1, Nat.le_trans hb h2, h3⟩⟩
def ang (g : List Int) : Nat → Int
  | 0 => 100 * nth g 0
  | k + 1 => ang g k + (100 * (nth g (k + 1) - nth g k)) % 21600000
def angs (g : List Int) (k : Nat) : List Value := (List.range k).map fun i => .int .i64 (ang g i)
theorem angs_succ (g : List Int) (k : Nat) : angs g (k + 1) = angs g k ++ [.int .i64 (ang g k)] := by simp [angs, List.range_succ]
theorem angs_get (g : List Int) (k i : Nat) (h : i < k) : (angs g k)[i]? = some (.int .i64 (ang g i)) := by simp [angs, h]
theorem ang_bd (g : List Int) (h : ∀ i, 0 ≤ nth g i ∧ nth g i ≤ 216000) : ∀ k : Nat, 0 ≤ ang g k ∧ ang g k ≤ 21600000 * ((k : Int) + 1)
  | 0 => by have := h 0; simp only [ang]; omega
  | k + 1 => by have := ang_bd g h k; simp only [ang]; omega

set_option maxHeartbeats 4000000 in
set_option maxRecDepth 100000 in
theorem inc_angles (v : Value) (t : TrkV) (w : World) (hv : Trk w v t) (h1 : 1 ≤ t.g.length) (h2 : t.g.length ≤ 100) (hb : ∀ i, 0 ≤ nth t.g i ∧ nth t.g i ≤ 216000) :
    Calls Tryz.prog 326 #[v] w fun e w' => ∃ v d, e = .returned v ∧ w' = bw w d ∧ (bw w d).ownsRow w.heap.size 3 1 v t.g.length (angs t.g t.g.length) := by
  obtain ⟨i0, hi, hz0, hz1, hz2⟩ := info_parts info_int4
  obtain ⟨vg, vd, rfl, -, hg, -⟩ := hv
  obtain ⟨a, cap, rfl, hl1, hwf, hc⟩ := hg
  obtain ⟨b, o, rfl, hbs, hcc⟩ := hc (by intro e; rw [e] at h1; simp at h1)
  replace hcc : ∀ i, i < t.g.length → w.cell? ⟨b, o + i, none⟩ = some (.int .i64 (nth t.g i)) := hcc
  clear hc hwf
  obtain ⟨m, hm⟩ : ∃ m, t.g.length = m := ⟨_, rfl⟩
  rw [hm] at h1 h2 hl1 hcc ⊢
  refine lay_start ?_
  have c0 := hcc 0 (by omega)
  rw [Nat.add_zero] at c0
  have b0 := hb 0
  have hm0 : (0 : Int) < (m : Int) := by omega
  go_enter Tryz.func326, Tryz.ntmps326
  go_wp2_with fail
  go_loopw [3, 4] (fun v i wr => ∃ (j : Nat) (d : Ext), j + 1 ≤ m ∧ i = .int .i64 ((j : Int) + 1) ∧ wr = lay w [.inr d, .inl (.cells #[.string t.s, .slice (some ⟨b, o, none⟩) m cap, vd, .int .i64 t.p, .int .i64 t.q, .int .i64 t.r] 182 (0, 0))] ∧ (lay w [.inr d, .inl (.cells #[.string t.s, .slice (some ⟨b, o, none⟩) m cap, vd, .int .i64 t.p, .int .i64 t.q, .int .i64 t.r] 182 (0, 0))]).ownsRow (lay w [.inl (.cells #[.string t.s, .slice (some ⟨b, o, none⟩) m cap, vd, .int .i64 t.p, .int .i64 t.q, .int .i64 t.r] 182 (0, 0))]).heap.size 3 1 v (j + 1) (angs t.g (j + 1))) (fun _ i _ => m - (intOf i).toNat)
  case atStart =>
    obtain ⟨d, hd⟩ := lay_ex (lay w [.inl (.cells #[.string t.s, .slice (some ⟨b, o, none⟩) m cap, vd, .int .i64 t.p, .int .i64 t.q, .int .i64 t.r] 182 (0, 0))]) [.inl (.cells #[.int .i64 (100 * nth t.g 0)] 3 (0, 0))]
    refine ⟨0, d, h1, rfl, by first | exact hd | (simp only [go_sem] at hd ⊢; exact hd) | trace_state, ?_⟩
    rw [show lay w [.inr d, .inl (.cells #[.string t.s, .slice (some ⟨b, o, none⟩) m cap, vd, .int .i64 t.p, .int .i64 t.q, .int .i64 t.r] 182 (0, 0))] = _ from hd.symm]
    have hr := World.ownsRow_lit (e := 3) (size := 1) (lay w [.inl (.cells #[.string t.s, .slice (some ⟨b, o, none⟩) m cap, vd, .int .i64 t.p, .int .i64 t.q, .int .i64 t.r] 182 (0, 0))]) #[.int .i64 (100 * nth t.g 0)] 1 (Nat.le_refl _) (by decide) rfl
    rw [lay_size] at hr ⊢
    exact hr
  case round =>
    obtain ⟨j, dd, hj, rfl, rfl, hown⟩ := hrel
    by_cases hlt : j + 1 < m
    · obtain ⟨g, cp, rfl⟩ := row_form hown (by omega)
      have hrow := hown.cellAt j (by omega)
      rw [angs_get _ _ _ (by omega)] at hrow
      have hgb := hown.lt g rfl
      have hrow2 : ∀ d' : Ext, (lay w [.inr d', .inr dd, .inl (.cells #[.string t.s, .slice (some ⟨b, o, none⟩) m cap, vd, .int .i64 t.p, .int .i64 t.q, .int .i64 t.r] 182 (0, 0))]).cell? ⟨g, j, none⟩ = some (.int .i64 (ang t.g j)) := fun d' => (bw_cell _ d' g j hgb.2).trans hrow
      clear hrow
      have e1 : IntKind.i64.wrap ((j : Int) + 1 - 1) = j := by rw [Int.add_sub_cancel]; exact IntWalk.i64_in _ (by omega)
      have e2 : IntKind.i64.wrap (j : Int) = j := IntWalk.i64_in _ (by omega)
      have k0 := hcc j (by omega)
      have k1 := hcc (j + 1) (by omega)
      have x0 : (0 : Int) ≤ (j : Int) := by omega
      have x1 : (j : Int) < (m : Int) := by omega
      have x2 : (0 : Int) ≤ (j : Int) + 1 := by omega
      have x3 : (j : Int) + 1 < (m : Int) := by omega
      have x4 : (j : Int) < ((j + 1 : Nat) : Int) := by omega
      have x5 : ((j : Int) + 1).toNat = j + 1 := by omega
      have x6 : (j : Int) < (j : Int) + 1 := by omega
      have a1 := hb j
      have a2 := hb (j + 1)
      have a3 := ang_bd t.g hb j
      have e3 : IntKind.i64.wrap (nth t.g (j + 1) - nth t.g j) = nth t.g (j + 1) - nth t.g j := IntWalk.i64_in _ (by omega)
      have e5 : IntKind.i64.wrap (ang t.g j + (100 * (nth t.g (j + 1) - nth t.g j)) % 21600000) = ang t.g (j + 1) := IntWalk.i64_in _ (by omega)
      have a4 : IntKind.i64.wrap (100 * (nth t.g (j + 1) - nth t.g j)) = 100 * (nth t.g (j + 1) - nth t.g j) := IntWalk.i64_in _ (by omega)
      go_wp2_with fail
      refine region_mixT 22 [0, 0, 0, 0, 0, 0, 0, 0, 0, 0, 0, 0, 0, 0, 0, 0, 0, 0, 0, 0, 0, 1] (by kernel_rfl) (by kernel_rfl) (by kernel_rfl) (by kernel_rfl) (by simp) (by kernel_rfl) ?_
      simp only [List.take_succ_cons, List.take_zero, List.drop_succ_cons, List.drop_zero]
      repeat (first | (refine wpM_quiet (fun K hK => ?_); go_simp; first | (refine hK _ ?_; clear hK K) | (apply Exists.intro; refine ⟨fun _ => ?_, hK _ ?_⟩; (first | (go_at_call 91; exact bqs (angle_Wrap _ _) ⟨noExt _, (bw_noExt _).symm⟩)); clear hK K)) | (refine wpM_special (fun K hK d => ?_); go_simp; refine hK _ _ (by first | exact lay_in w [_] _ | exact lay_in w [_, _] _ | exact lay_in w [_, _, _] _ | exact lay_in w [_, _, _, _] _ | exact lay_in w [_, _, _, _, _] _ | exact lay_in w [_, _, _, _, _, _] _) ?_; clear hK K))
      refine wpM_nil ?_
      intro d1
      rw [lay_bw]
      refine wpList_push2 rfl _ _ 112 rfl 3 i0 (.int .i64 0) 1 8 Tryz.underlying112 hi hz0 hz1 hz2 rfl (by decide) (lay w [.inl (.cells #[.string t.s, .slice (some ⟨b, o, none⟩) m cap, vd, .int .i64 t.p, .int .i64 t.q, .int .i64 t.r] 182 (0, 0))]) (lay w [.inr d1, .inl (.cells #[.int .i64 (ang t.g (j + 1))] 3 (0, 0)), .inr d, .inr dd, .inl (.cells #[.string t.s, .slice (some ⟨b, o, none⟩) m cap, vd, .int .i64 t.p, .int .i64 t.q, .int .i64 t.r] 182 (0, 0))]) #[.int .i64 (ang t.g (j + 1))] 3 (posn w [d.n, dd.n, 1]) _ _ _ (lay_extends (lay w [.inl (.cells #[.string t.s, .slice (some ⟨b, o, none⟩) m cap, vd, .int .i64 t.p, .int .i64 t.q, .int .i64 t.r] 182 (0, 0))]) [.inr d1, .inl (.cells #[.int .i64 (ang t.g (j + 1))] 3 (0, 0)), .inr d, .inr dd]) (row_lay hown [.inr d1, .inl (.cells #[.int .i64 (ang t.g (j + 1))] 3 (0, 0)), .inr d]) (lay_get w [.inr d1, .inl (.cells #[.int .i64 (ang t.g (j + 1))] 3 (0, 0)), .inr d, .inr dd, .inl (.cells #[.string t.s, .slice (some ⟨b, o, none⟩) m cap, vd, .int .i64 t.p, .int .i64 t.q, .int .i64 t.r] 182 (0, 0))] 1 _ rfl) rfl rfl rfl (by simp [Value.oneCell']) (by unfold maxLen; omega) (by omega) ?_
      intro v' d' hown'
      go_wp2_with fail
      go_roundw
      case rel => exact ⟨j + 1, d', hlt, by go_num, rfl, by rw [angs_succ]; exact hown'⟩
      case measure => simp [intOf]; omega
    · obtain rfl : j + 1 = m := by omega
      go_wp2_with fail
      obtain ⟨d, hd⟩ := lay_ex w [.inr dd, .inl (.cells #[.string t.s, .slice (some ⟨b, o, none⟩) (j + 1) cap, vd, .int .i64 t.p, .int .i64 t.q, .int .i64 t.r] 182 (0, 0))]
      have hown2 := row_le (base' := w.heap.size) hown (by rw [lay_size]; unfold posn; omega)
      clear hown
      rw [hd] at hown2 ⊢
      go_ret
      exact ⟨_, d, rfl, rfl, hown2⟩
end Go.Proofs.YtnnmfdeeicpdlaaGreat
/- increments.gha, dec: the arcs of hours, the values over a span. -/
namespace Go.Proofs.YtnnmfdeeicpdlaaGreat
set_option maxHeartbeats 4000000
set_option maxRecDepth 100000
open Go.RowKit

theorem inc_ghaC (bl g n cap : Nat) (x h : Int) (w : World) (b1 : bl < w.heap.size) (b2 : g < w.heap.size) (c1 : w.cell? ⟨bl, 0, none⟩ = some (.slice (some ⟨g, 0, none⟩) n cap))
    (k : Nat) (hk : h = (k : Int)) (hn : k < n) (c2 : w.cell? ⟨g, k, none⟩ = some (.int .i64 x)) (x1 : -1099511627776 ≤ x) (x2 : x ≤ 1099511627776) :
    Calls Tryz.prog 328 #[.int .i64 h, .pointer (some ⟨bl, 0, none⟩)] w fun e w' => e = .returned (.agg #[.int .i64 (x - 50), .int .i64 (x + 50)]) ∧ ∃ d, w' = bw w d := by
  subst hk
  have y0 : (0 : Int) ≤ (k : Int) := by omega
  have y1 : (k : Int) < (n : Int) := by omega
  refine lay_start ?_
  go_enter Tryz.func328, Tryz.ntmps328
  go_wp2_with (go_at_call 329; refine (inc_around _ _ x1 x2).mono ?_; rintro e w' ⟨rfl, d, rfl⟩)
  exact bodyPost_ret (v := (.agg #[.int .i64 (x - 50), .int .i64 (x + 50)])) (by simp [results, Tryz.results328, go_sem]) rfl ⟨rfl, lay_ex _ _⟩
theorem inc_decC (bl b o n cap : Nat) (x h : Int) (w : World) (b1 : bl < w.heap.size) (b2 : b < w.heap.size) (c1 : w.cell? ⟨bl, 2, none⟩ = some (.slice (some ⟨b, o, none⟩) n cap))
    (k : Nat) (hk : h = (k : Int)) (hn : k < n) (c2 : w.cell? ⟨b, o + k, none⟩ = some (.int .i64 x)) (x1 : -54000 ≤ x) (x2 : x ≤ 54000) :
    Calls Tryz.prog 330 #[.int .i64 h, .pointer (some ⟨bl, 0, none⟩)] w fun e w' => e = .returned (.agg #[.int .i64 (100 * x - 50), .int .i64 (100 * x + 50)]) ∧ ∃ d, w' = bw w d := by
  subst hk
  have y0 : (0 : Int) ≤ (k : Int) := by omega
  have y1 : (k : Int) < (n : Int) := by omega
  refine lay_start ?_
  go_enter Tryz.func330, Tryz.ntmps330
  go_wp2_with (go_at_call 329; refine (inc_around _ _ (by omega) (by omega)).mono ?_; rintro e w' ⟨rfl, d, rfl⟩)
  exact bodyPost_ret (v := (.agg #[.int .i64 (100 * x - 50), .int .i64 (100 * x + 50)])) (by simp [results, Tryz.results330, go_sem]) rfl ⟨rfl, lay_ex _ _⟩
def arcA (f : Nat → Int) (h : Int) : Int × Int := (f (min h.toNat 24) - 50, f (min h.toNat 24) + 50)
theorem arcA_ok {f : Nat → Int} (h : ∀ i, i ≤ 24 → -1000000000000 ≤ f i ∧ f i ≤ 1000000000000) : ArcsOk (arcA f) where
  lo := fun k => by have := h (min k.toNat 24) (Nat.min_le_right _ _); simp only [arcA]; omega
  hi := fun k => by have := h (min k.toNat 24) (Nat.min_le_right _ _); simp only [arcA]; omega
  le := fun k => by simp only [arcA]; omega
theorem arcA_at (f : Nat → Int) (k : Nat) (h : k ≤ 24) : arcA f (k : Int) = (f k - 50, f k + 50) := by
  unfold arcA; rw [show min (k : Int).toNat 24 = k by omega]
structure GD (t : TrkV) : Prop where
  lg : t.g.length = 25
  ld : t.d.length = 25
  bg : ∀ i, 0 ≤ nth t.g i ∧ nth t.g i ≤ 216000
  bd : ∀ i, -54000 ≤ nth t.d i ∧ nth t.d i ≤ 54000
  r0 : 0 ≤ t.r
  r1 : t.r ≤ 1000
theorem ang_ok {t : TrkV} (h : GD t) : ∀ i, i ≤ 24 → -1000000000000 ≤ ang t.g i ∧ ang t.g i ≤ 1000000000000 := fun i hi => by
  have := ang_bd t.g h.bg i; omega
def dcl (l : List Int) (i : Nat) : Int := 100 * nth l i
theorem dcl_ok {t : TrkV} (h : GD t) : ∀ i, i ≤ 24 → -1000000000000 ≤ dcl t.d i ∧ dcl t.d i ≤ 1000000000000 := fun i _ => by
  have := h.bd i; unfold dcl; omega
def ghaO (t : TrkV) (lo hi : Int) : Int × Int := ovr (arcA (ang t.g)) lo hi t.r
def decO (t : TrkV) (lo hi : Int) : Int × Int := ovr (arcA (dcl t.d)) lo hi t.r
theorem hullL_ind {P : Int × Int → Prop} (hh : ∀ x y, P x → P y → P (hull2 x y)) {l : List (Int × Int)} (hl : l ≠ []) (h : ∀ y ∈ l, P y) : P (hullL l) := by
  cases l with
  | nil => exact absurd rfl hl
  | cons x l =>
    have : ∀ (l : List (Int × Int)) x, P x → (∀ y ∈ l, P y) → P (l.foldl hull2 x) := by
      intro l
      induction l with
      | nil => exact fun x h _ => h
      | cons y l ih => exact fun x h k => ih _ (hh _ _ h (k y (List.mem_cons_self ..))) (fun z hz => k z (List.mem_cons_of_mem _ hz))
    exact this l x (h x (List.mem_cons_self ..)) (fun z hz => h z (List.mem_cons_of_mem _ hz))
theorem pcs_ne (A : Int → Int × Int) (lo hi : Int) : pcs A lo hi ≠ [] := by simp [pcs]
theorem pcs_mem {A : Int → Int × Int} {lo hi : Int} {y : Int × Int} (h : y ∈ pcs A lo hi) : y = (insL A lo, insH A lo) ∨ y = (insL A hi, insH A hi) ∨ ∃ i : Nat, i < nhr lo hi ∧ y = A (lo / 3600000 + 1 + i) := by
  unfold pcs hrs at h
  rcases List.mem_append.1 h with h | h
  · simp only [List.mem_cons, List.not_mem_nil, or_false] at h
    exact h.imp id .inl
  · obtain ⟨i, hi, rfl⟩ := List.mem_map.1 h
    exact .inr (.inr ⟨i, List.mem_range.1 hi, rfl⟩)
theorem ins_in {A : Int → Int × Int} {B : Int} (h : ∀ k, -B ≤ (A k).1 ∧ (A k).1 ≤ (A k).2 ∧ (A k).2 ≤ B) (ms : Int) : -B ≤ insL A ms ∧ insL A ms ≤ insH A ms ∧ insH A ms ≤ B := by
  unfold insL insH
  split
  · exact h _
  · exact ⟨lin_ge (h _).1 (h _).1 (by omega) (by omega), lin_mono (h _).2.1 (h _).2.1 (by omega) (by omega), lin_le (h _).2.2 (h _).2.2 (by omega) (by omega)⟩
theorem pcs_in {A : Int → Int × Int} {B : Int} (h : ∀ k, -B ≤ (A k).1 ∧ (A k).1 ≤ (A k).2 ∧ (A k).2 ≤ B) (lo hi : Int) : -B ≤ (hullL (pcs A lo hi)).1 ∧ (hullL (pcs A lo hi)).1 ≤ (hullL (pcs A lo hi)).2 ∧ (hullL (pcs A lo hi)).2 ≤ B := by
  refine hullL_ind (P := fun x => -B ≤ x.1 ∧ x.1 ≤ x.2 ∧ x.2 ≤ B) (fun x y hx hy => by unfold hull2; dsimp only at *; omega) (pcs_ne _ _ _) fun y hy => ?_
  rcases pcs_mem hy with rfl | rfl | ⟨i, _, rfl⟩
  · exact ins_in h _
  · exact ins_in h _
  · exact h _
theorem arcA_in {f : Nat → Int} {B : Int} (h : ∀ i, i ≤ 24 → -B ≤ f i ∧ f i ≤ B) : ∀ k, -(B + 50) ≤ (arcA f k).1 ∧ (arcA f k).1 ≤ (arcA f k).2 ∧ (arcA f k).2 ≤ B + 50 := fun k => by
  have := h (min k.toNat 24) (Nat.min_le_right _ _); simp only [arcA]; omega
theorem ovr_in {A : Int → Int × Int} {B : Int} (h : ∀ k, -B ≤ (A k).1 ∧ (A k).1 ≤ (A k).2 ∧ (A k).2 ≤ B) (lo hi r : Int) (r0 : 0 ≤ r) (r1 : r ≤ 1000) : -(B + 12500) ≤ (ovr A lo hi r).1 ∧ (ovr A lo hi r).1 ≤ (ovr A lo hi r).2 ∧ (ovr A lo hi r).2 ≤ B + 12500 := by
  have h1 := pcs_in h lo hi
  unfold ovr; split
  · omega
  · have : 0 ≤ cdiv (100 * r) 8 ∧ cdiv (100 * r) 8 ≤ 12500 := by unfold cdiv; omega
    dsimp only; omega
theorem ghaO_valid {t : TrkV} (h : GD t) (lo hi : Int) : validB (ghaO t lo hi).1 (ghaO t lo hi).2 = true := by
  have := ovr_in (arcA_in (ang_ok h)) lo hi t.r h.r0 h.r1
  rw [validB_iff]; unfold ghaO; omega
theorem decO_valid {t : TrkV} (h : GD t) (lo hi : Int) : validB (decO t lo hi).1 (decO t lo hi).2 = true := by
  have := ovr_in (arcA_in (dcl_ok h)) lo hi t.r h.r0 h.r1
  rw [validB_iff]; unfold decO; omega

theorem inc_gha (v : Value) (t : TrkV) (lo hi : Int) (w : World) (hv : Trk w v t) (hg : GD t) (l0 : 0 ≤ lo) (l1 : lo ≤ 86400000) (h0 : 0 ≤ hi) (h1 : hi ≤ 86400000) :
    Calls Tryz.prog 285 #[v, .int .i64 lo, .int .i64 hi] w fun e w' => e = .returned (.tuple #[(.agg #[.int .i64 (turnLo (ghaO t lo hi).1 (ghaO t lo hi).2), .int .i64 (turnHi (ghaO t lo hi).1 (ghaO t lo hi).2)]), .int .i64 0]) ∧ ∃ d, w' = bw w d := by
  obtain ⟨vg, vd, hvv, -⟩ := id hv
  subst hvv
  have HV := Lib.hid (fun L => hv.lay L)
  have HG := Lib.hid hg
  refine lay_start ?_
  go_enter Tryz.func285, Tryz.ntmps285
  go_wp2_with fail
  refine (inc_angles _ t _ (HV.out _) (by rw [HG.out.lg]; decide) (by rw [HG.out.lg]; decide) HG.out.bg).mono ?_
  rintro e w' ⟨v', d, rfl, rfl, hown⟩
  rw [HG.out.lg] at hown
  obtain ⟨g, cp, rfl⟩ := row_form hown (by decide)
  have hrow : ∀ k, k < 25 → (bw (lay w [.inl (.cells #[.int .i64 0, .int .i64 0] 23 (0, 0)), .inl (.cells #[.string t.s, vg, vd, .int .i64 t.p, .int .i64 t.q, .int .i64 t.r] 182 (0, 0))]) d).cell? ⟨g, k, none⟩ = some (.int .i64 (ang t.g k)) := fun k hk => by rw [hown.cellAt k (by omega)]; exact angs_get _ _ _ hk
  have hgb := (hown.lt g rfl).2
  clear hown
  go_wp2_with fail
  refine (inc_over (arcA (ang t.g)) 328 (.pointer (some ⟨posn w [d.n, 1, 1], 0, none⟩)) _ t lo hi _ (arcA_ok (ang_ok HG.out)) (HV.out _) l0 l1 h0 h1 HG.out.r0 (by have := HG.out.r1; omega) (enters_of Tryz.func328 (by kernel_rfl) rfl) ?hat).mono ?_
  case hat =>
    intro W h hK a b
    obtain ⟨k, rfl⟩ := Int.eq_ofNat_of_zero_le a
    rw [arcA_at _ k (by omega)]
    have hab := ang_ok HG.out k (by omega)
    have z1 : posn w [d.n, 1, 1] < (lay w [.inl (.cells #[.slice (some ⟨g, 0, none⟩) 25 cp] 112 (0, 0)), .inr d, .inl (.cells #[.int .i64 0, .int .i64 0] 23 (0, 0)), .inl (.cells #[.string t.s, vg, vd, .int .i64 t.p, .int .i64 t.q, .int .i64 t.r] 182 (0, 0))]).heap.size := by rw [lay_size]; simp only [posn, shp, List.sum_cons, List.sum_nil]; omega
    have z2 : g < (lay w [.inl (.cells #[.slice (some ⟨g, 0, none⟩) 25 cp] 112 (0, 0)), .inr d, .inl (.cells #[.int .i64 0, .int .i64 0] 23 (0, 0)), .inl (.cells #[.string t.s, vg, vd, .int .i64 t.p, .int .i64 t.q, .int .i64 t.r] 182 (0, 0))]).heap.size := Nat.lt_of_lt_of_le hgb (lay_extends (bw (lay w [.inl (.cells #[.int .i64 0, .int .i64 0] 23 (0, 0)), .inl (.cells #[.string t.s, vg, vd, .int .i64 t.p, .int .i64 t.q, .int .i64 t.r] 182 (0, 0))]) d) [.inl (.cells #[.slice (some ⟨g, 0, none⟩) 25 cp] 112 (0, 0))]).size
    exact inc_ghaC (posn w [d.n, 1, 1]) g 25 cp (ang t.g k) k W (Nat.lt_of_lt_of_le z1 hK.size) (Nat.lt_of_lt_of_le z2 hK.size)
      ((hK.cell z1).trans (cell_blk (lay_get w [.inl (.cells #[.slice (some ⟨g, 0, none⟩) 25 cp] 112 (0, 0)), .inr d, .inl (.cells #[.int .i64 0, .int .i64 0] 23 (0, 0)), .inl (.cells #[.string t.s, vg, vd, .int .i64 t.p, .int .i64 t.q, .int .i64 t.r] 182 (0, 0))] 0 _ rfl))) k rfl (by omega) ((hK.cell z2).trans (((lay_extends (bw (lay w [.inl (.cells #[.int .i64 0, .int .i64 0] 23 (0, 0)), .inl (.cells #[.string t.s, vg, vd, .int .i64 t.p, .int .i64 t.q, .int .i64 t.r] 182 (0, 0))]) d) [.inl (.cells #[.slice (some ⟨g, 0, none⟩) 25 cp] 112 (0, 0))]).cell (p := ⟨g, k, none⟩) hgb).trans (hrow k (by omega)))) (by omega) (by omega)
  rintro e w' ⟨rfl, d2, rfl⟩
  have HVD := Lib.hid (ghaO_valid hg lo hi)
  clear hrow hgb
  rw [show ovr (arcA (ang t.g)) lo hi t.r = ghaO t lo hi from rfl]
  obtain ⟨O, hO⟩ : ∃ O, ghaO t lo hi = O := ⟨_, rfl⟩
  rw [hO] at HVD ⊢
  go_wp2_with (go_at_call 21; refine (angle_Turn _ _ _ HVD.out).mono ?_; rintro e w' ⟨rfl, d, rfl⟩)
  exact bodyPost_ret (v := .tuple #[(.agg #[.int .i64 (turnLo O.1 O.2), .int .i64 (turnHi O.1 O.2)]), .int .i64 0]) (by simp [results, Tryz.results285, go_sem]) rfl ⟨by rw [hO], lay_ex _ _⟩

theorem lin_le2 {x0 x1 n B : Int} (h0 : x0 ≤ B) (h1 : x1 ≤ B) (n0 : 0 ≤ n) (n1 : n ≤ 3600000) : (x0 * (3600000 - n) + x1 * n) / 3600000 ≤ B := by
  have a := Int.mul_le_mul_of_nonneg_right h0 (show 0 ≤ 3600000 - n by omega)
  have b := Int.mul_le_mul_of_nonneg_right h1 n0
  rw [Int.mul_sub B] at a
  omega
theorem lin_ge2 {x0 x1 n B : Int} (h0 : B ≤ x0) (h1 : B ≤ x1) (n0 : 0 ≤ n) (n1 : n ≤ 3600000) : B ≤ cdiv (x0 * (3600000 - n) + x1 * n) 3600000 := by
  have a := Int.mul_le_mul_of_nonneg_right h0 (show 0 ≤ 3600000 - n by omega)
  have b := Int.mul_le_mul_of_nonneg_right h1 n0
  rw [Int.mul_sub B] at a
  unfold cdiv
  omega
theorem ovr_meets {A : Int → Int × Int} {B : Int} (h : ∀ k, (A k).1 ≤ B ∧ -B ≤ (A k).2) (lo hi r : Int) (r0 : 0 ≤ r) : (ovr A lo hi r).1 ≤ B ∧ -B ≤ (ovr A lo hi r).2 := by
  have hi1 : ∀ ms, insL A ms ≤ B ∧ -B ≤ insH A ms := fun ms => by
    unfold insL insH
    split
    · exact h _
    · exact ⟨lin_le2 (h _).1 (h _).1 (by omega) (by omega), lin_ge2 (h _).2 (h _).2 (by omega) (by omega)⟩
  have h1 : (hullL (pcs A lo hi)).1 ≤ B ∧ -B ≤ (hullL (pcs A lo hi)).2 := hullL_ind (P := fun x => x.1 ≤ B ∧ -B ≤ x.2) (fun x y hx hy => by unfold hull2; dsimp only at *; omega) (pcs_ne _ _ _) fun y hy => by
    rcases pcs_mem hy with rfl | rfl | ⟨i, _, rfl⟩
    · exact hi1 _
    · exact hi1 _
    · exact h _
  unfold ovr; split
  · exact h1
  · have : 0 ≤ cdiv (100 * r) 8 := by unfold cdiv; omega
    dsimp only; omega
theorem decO_meets {t : TrkV} (h : GD t) (lo hi : Int) : (decO t lo hi).1 ≤ 5400000 ∧ -5400000 ≤ (decO t lo hi).2 :=
  ovr_meets (fun k => by have := h.bd (min k.toNat 24); simp only [arcA, dcl]; omega) lo hi t.r h.r0
theorem dec_meet {t : TrkV} (h : GD t) (lo hi : Int) : mx (decO t lo hi).1 (-5400000) ≤ mn (decO t lo hi).2 5400000 := by
  have h1 := decO_meets h lo hi
  have h2 := validB_iff.1 (decO_valid h lo hi)
  rw [mx_eq, mn_eq]; omega

theorem inc_dec (v : Value) (t : TrkV) (lo hi : Int) (w : World) (hv : Trk w v t) (hg : GD t) (l0 : 0 ≤ lo) (l1 : lo ≤ 86400000) (h0 : 0 ≤ hi) (h1 : hi ≤ 86400000) :
    Calls Tryz.prog 286 #[v, .int .i64 lo, .int .i64 hi] w fun e w' => e = .returned (.tuple #[(.agg #[.int .i64 (mx (decO t lo hi).1 (-5400000)), .int .i64 (mn (decO t lo hi).2 5400000)]), .int .i64 0]) ∧ ∃ d, w' = bw w d := by
  obtain ⟨vg, vd, hvv, -, -, hd, -⟩ := id hv
  obtain ⟨a, cap, rfl, -, -, hcc⟩ := hd
  obtain ⟨b, o, rfl, hbs, hcc⟩ := hcc (by intro e; have := hg.ld; rw [e] at this; cases this)
  replace hcc : ∀ i, i < t.d.length → w.cell? ⟨b, o + i, none⟩ = some (.int .i64 (nth t.d i)) := hcc
  rw [hg.ld] at hcc hvv
  subst hvv
  have HV := Lib.hid (fun L => hv.lay L)
  have HG := Lib.hid hg
  refine lay_start ?_
  go_enter Tryz.func286, Tryz.ntmps286
  go_wp2_with fail
  refine (inc_over (arcA (dcl t.d)) 330 (.pointer (some ⟨posn w [], 0, none⟩)) _ t lo hi _ (arcA_ok (dcl_ok HG.out)) (HV.out _) l0 l1 h0 h1 HG.out.r0 (by have := HG.out.r1; omega) (enters_of Tryz.func330 (by kernel_rfl) rfl) ?hat).mono ?_
  case hat =>
    intro W h hK a b'
    obtain ⟨k, rfl⟩ := Int.eq_ofNat_of_zero_le a
    rw [arcA_at _ k (by omega)]
    have hab := HG.out.bd k
    have z1 : posn w [] < (lay w [.inl (.cells #[.int .i64 0, .int .i64 0] 23 (0, 0)), .inl (.cells #[.string t.s, vg, .slice (some ⟨b, o, none⟩) 25 cap, .int .i64 t.p, .int .i64 t.q, .int .i64 t.r] 182 (0, 0))]).heap.size := by rw [lay_size]; simp only [posn, shp, List.sum_cons, List.sum_nil]; omega
    have z2 : b < (lay w [.inl (.cells #[.int .i64 0, .int .i64 0] 23 (0, 0)), .inl (.cells #[.string t.s, vg, .slice (some ⟨b, o, none⟩) 25 cap, .int .i64 t.p, .int .i64 t.q, .int .i64 t.r] 182 (0, 0))]).heap.size := Nat.lt_of_lt_of_le hbs (lay_extends w _).size
    exact inc_decC (posn w []) b o 25 cap (nth t.d k) k W (Nat.lt_of_lt_of_le z1 hK.size) (Nat.lt_of_lt_of_le z2 hK.size)
      ((hK.cell z1).trans (cell_blk (lay_get w [.inl (.cells #[.int .i64 0, .int .i64 0] 23 (0, 0)), .inl (.cells #[.string t.s, vg, .slice (some ⟨b, o, none⟩) 25 cap, .int .i64 t.p, .int .i64 t.q, .int .i64 t.r] 182 (0, 0))] 1 _ rfl))) k rfl (by omega) ((hK.cell z2).trans (((lay_extends w [.inl (.cells #[.int .i64 0, .int .i64 0] 23 (0, 0)), .inl (.cells #[.string t.s, vg, .slice (some ⟨b, o, none⟩) 25 cap, .int .i64 t.p, .int .i64 t.q, .int .i64 t.r] 182 (0, 0))]).cell (p := ⟨b, o + k, none⟩) hbs).trans (hcc k (by omega)))) (by omega) (by omega)
  rintro e w' ⟨rfl, d2, rfl⟩
  have HVD := Lib.hid (decO_valid hg lo hi)
  have HMG := Lib.hid (meet_good (dec_meet hg lo hi))
  clear hcc
  rw [show ovr (arcA (dcl t.d)) lo hi t.r = decO t lo hi from rfl]
  obtain ⟨O, hO⟩ : ∃ O, decO t lo hi = O := ⟨_, rfl⟩
  rw [hO] at HVD HMG ⊢
  go_wp2_with (go_at_call 331; refine (angle_Meet _ _ _ _ _ HVD.out (by decide)).mono ?_; rintro e w' ⟨rfl, d, rfl⟩)
  obtain ⟨g1, g2, g3⟩ := HMG.out
  exact bodyPost_ret (v := .tuple #[(.agg #[.int .i64 (mx O.1 (-5400000)), .int .i64 (mn O.2 5400000)]), .int .i64 0]) (by simp [results, Tryz.results286, go_sem, g1, g2, g3]) rfl ⟨by rw [hO], lay_ex _ _⟩
end Go.Proofs.YtnnmfdeeicpdlaaGreat
/- increments.instant, Gha, Dec, During. -/
namespace Go.Proofs.YtnnmfdeeicpdlaaGreat
set_option maxHeartbeats 2000000
set_option maxRecDepth 100000
open Go.RowKit

theorem lay_drew (w : World) (L : List (Obj ⊕ Ext)) : ∃ d, (lay w L).drew = lay w (.inr d :: L) := ⟨⟨#[], (lay w L).drew.drawn⟩, by
  show _ = bw (lay w L) _
  unfold bw World.drew; simp⟩
noncomputable def instE (t : TrkV) (ms : Int) : Int := if trkB t = true then (if 0 ≤ ms ∧ ms ≤ 86400000 then 0 else 2) else 1
theorem inc_instant (v : Value) (t : TrkV) (ms : Int) (w : World) (hv : Trk w v t) :
    Calls Tryz.prog 284 #[v, .int .i64 ms] w fun e w' => e = .returned (.int .i64 (instE t ms)) ∧ ∃ d, w' = bw w d := by
  obtain ⟨vg, vd, hvv, -⟩ := id hv
  subst hvv
  have HV := Lib.hid (fun L => inc_valid _ t (lay w L) (hv.lay L))
  clear hv
  cases hB : trkB t
  · have e1 : instE t ms = 1 := by unfold instE; rw [hB]; rfl
    rw [hB] at HV
    rw [e1]
    clear e1 hB
    refine lay_start ?_
    go_enter Tryz.func284, Tryz.ntmps284
    go_wp2_with (go_at_call 325; refine (HV.out _).mono ?_; rintro e w' ⟨rfl, d, rfl⟩)
    go_ret
    exact ⟨rfl, lay_ex _ _⟩
  · have e1 : instE t ms = if 0 ≤ ms ∧ ms ≤ 86400000 then 0 else 2 := by unfold instE; rw [hB]; rfl
    rw [hB] at HV
    rw [e1]
    clear e1 hB
    by_cases h0 : ms < 0
    · rw [if_neg (by omega)]
      refine lay_start ?_
      go_enter Tryz.func284, Tryz.ntmps284
      go_wp2_with (go_at_call 325; refine (HV.out _).mono ?_; rintro e w' ⟨rfl, d, rfl⟩)
      go_ret
      exact ⟨rfl, lay_ex _ _⟩
    · by_cases h1 : 86400000 < ms
      · rw [if_neg (by omega)]
        refine lay_start ?_
        go_enter Tryz.func284, Tryz.ntmps284
        go_wp2_with (go_at_call 325; refine (HV.out _).mono ?_; rintro e w' ⟨rfl, d, rfl⟩)
        go_ret
        exact ⟨rfl, lay_ex _ _⟩
      · rw [if_pos (by omega)]
        refine lay_start ?_
        go_enter Tryz.func284, Tryz.ntmps284
        go_wp2_with (go_at_call 325; refine (HV.out _).mono ?_; rintro e w' ⟨rfl, d, rfl⟩)
        go_ret
        exact ⟨rfl, lay_ex _ _⟩

theorem instE_0 {t : TrkV} {ms : Int} : instE t ms = 0 ↔ trkB t = true ∧ 0 ≤ ms ∧ ms ≤ 86400000 := by
  unfold instE; split
  · rename_i h; split
    · rename_i h2; exact ⟨fun _ => ⟨h, h2⟩, fun _ => rfl⟩
    · rename_i h2; exact ⟨fun e => absurd e (by decide), fun e => absurd e.2 h2⟩
  · rename_i h; exact ⟨fun e => absurd e (by decide), fun e => absurd e.1 h⟩
theorem in_nth {l : List Int} {lo hi : Int} (h : inLB l lo hi = true) (h0 : lo ≤ 0) (h1 : 0 ≤ hi) (i : Nat) : lo ≤ nth l i ∧ nth l i ≤ hi := by
  have h := inLB_iff.1 h
  by_cases hi' : i < l.length
  · exact h i hi'
  · have : nth l i = 0 := by unfold nth; simp [List.getD, List.getElem?_eq_none (Nat.le_of_not_lt hi')]
    rw [this]; exact ⟨h0, h1⟩
theorem gd_of {t : TrkV} (h : trkB t = true) : GD t where
  lg := (trkB_iff.1 h).lg
  ld := (trkB_iff.1 h).ld
  bg := fun i => by have := in_nth (trkB_iff.1 h).bg (by decide) (by decide) i; omega
  bd := fun i => in_nth (trkB_iff.1 h).bd (by decide) (by decide) i
  r0 := (in_nth (trkB_iff.1 h).br (by decide) (by decide) 0).1
  r1 := (in_nth (trkB_iff.1 h).br (by decide) (by decide) 0).2

theorem inc_During_ok (v : Value) (t : TrkV) (lo hi : Int) (w : World) (hv : Trk w v t) (he : instE t lo = 0) (he2 : instE t hi = 0) (hle : lo ≤ hi) :
    Calls Tryz.prog 242 #[v, .int .i64 lo, .int .i64 hi] w fun e w' => e = .returned (.tuple #[(.agg #[.int .i64 (turnLo (ghaO t lo hi).1 (ghaO t lo hi).2), .int .i64 (turnHi (ghaO t lo hi).1 (ghaO t lo hi).2)]), (.agg #[.int .i64 (mx (decO t lo hi).1 (-5400000)), .int .i64 (mn (decO t lo hi).2 5400000)]), .int .i64 0]) ∧ ∃ d, w' = bw w d := by
  obtain ⟨vg, vd, hvv, -⟩ := id hv
  subst hvv
  obtain ⟨hB, m0, m1⟩ := instE_0.1 he
  obtain ⟨-, n0, n1⟩ := instE_0.1 he2
  have HV := Lib.hid (fun L => inc_instant _ t lo (lay w L) (hv.lay L))
  have HV2 := Lib.hid (fun L => inc_instant _ t hi (lay w L) (hv.lay L))
  have HG := Lib.hid (fun L => inc_gha _ t lo hi (lay w L) (hv.lay L) (gd_of hB) m0 m1 n0 n1)
  have HD := Lib.hid (fun L => inc_dec _ t lo hi (lay w L) (hv.lay L) (gd_of hB) m0 m1 n0 n1)
  rw [he] at HV
  rw [he2] at HV2
  clear hv hB he he2
  refine lay_start ?_
  go_enter Tryz.func242, Tryz.ntmps242
  go_wp2_with (first | (go_at_call_of 284 (Value.int .i64 lo); refine (HV.out _).mono ?_; rintro e w' ⟨rfl, d, rfl⟩) | (go_at_call 284; refine (HV2.out _).mono ?_; rintro e w' ⟨rfl, d, rfl⟩) | (go_at_call 285; refine (HG.out _).mono ?_; rintro e w' ⟨rfl, d, rfl⟩) | (go_at_call 286; refine (HD.out _).mono ?_; rintro e w' ⟨rfl, d, rfl⟩))
  go_region
  all_goals (
    obtain ⟨e1, he1⟩ := lay_drew w _
    rw [he1]
    clear he1
    go_wp2
    exact bodyPost_ret (v := .tuple #[(.agg #[.int .i64 (turnLo (ghaO t lo hi).1 (ghaO t lo hi).2), .int .i64 (turnHi (ghaO t lo hi).1 (ghaO t lo hi).2)]), (.agg #[.int .i64 (mx (decO t lo hi).1 (-5400000)), .int .i64 (mn (decO t lo hi).2 5400000)]), .int .i64 0]) (by simp [results, Tryz.results242, go_sem]) rfl ⟨rfl, lay_ex _ _⟩)
end Go.Proofs.YtnnmfdeeicpdlaaGreat
/- angle.Signed. -/
namespace Go.Proofs.YtnnmfdeeicpdlaaGreat
open Go.RowKit

def sgnI (n : Int) : Int := if n % 21600000 < 10800000 then n % 21600000 else n % 21600000 - 21600000
set_option maxHeartbeats 400000 in
theorem angle_Sgn (n : Int) (w : World) :
    Calls Tryz.prog 244 #[.int .i64 n] w fun e w' => e = .returned (.int .i64 (sgnI n)) ∧ w' = w := by
  have hb : 0 ≤ n % 21600000 ∧ n % 21600000 < 21600000 := by omega
  go_enter Tryz.func244, Tryz.ntmps244
  go_wp2_with (go_at_call 91; refine (angle_Wrap _ _).mono ?_; rintro e w' ⟨rfl, rfl⟩)
  all_goals go_ret
  all_goals exact ⟨ret_int (by unfold sgnI; omega), rfl⟩
end Go.Proofs.YtnnmfdeeicpdlaaGreat
/- Where a body is: the plain law (values). -/
namespace Go.Proofs.YtnnmfdeeicpdlaaGreat
open Go.RowKit Go.Shelf

structure GeoV where
  a : Int
  b : Int
  c : Int
  d : Int
  e : Int
  f : Int
  g : Int
  h : Int
def gv (G : GeoV) : Value := (.agg #[.int .i64 (G.a), .int .i64 (G.b), .int .i64 (G.c), .int .i64 (G.d), .int .i64 (G.e), .int .i64 (G.f), .int .i64 (G.g), .int .i64 (G.h)])
def g0 : GeoV := ⟨0, 0, 0, 0, 0, 0, 0, 0⟩
def szL (n : Int) : Int := mx 0 (100 * n - 50)
def szH (n : Int) : Int := mx 0 (100 * n + 50)
def spanV (t : TrkV) (lo hi : Int) : GeoV :=
  ⟨turnLo (ghaO t lo hi).1 (ghaO t lo hi).2, turnHi (ghaO t lo hi).1 (ghaO t lo hi).2, mx (decO t lo hi).1 (-5400000), mn (decO t lo hi).2 5400000, szL t.p, szH t.p, szL t.q, szH t.q⟩
def hulL (a c : Int) : Int := mn a (a + sgnI (c - a))
def hulH (a b c d : Int) : Int := mx b (a + sgnI (c - a) + d - c)
def joinV (x y : GeoV) : GeoV :=
  ⟨turnLo (hulL x.a y.a) (hulH x.a x.b y.a y.b), turnHi (hulL x.a y.a) (hulH x.a x.b y.a y.b), mn x.c y.c, mx x.d y.d, mn x.e y.e, mx x.f y.f, mn x.g y.g, mx x.h y.h⟩
def pgIs (n : Int) (p : PgV) : Bool := decide (numI p.y p.m p.d = n)
def pgAt (lp : List PgV) (n : Int) : Int := idxR (pgIs n) lp 0
def trkAt (lp : List PgV) (s : ByteArray) (n : Int) : Option TrkV := (lp.find? (pgIs n)).bind fun p => p.ts.find? fun t => nmB t.s s
def bodyR (lp : List PgV) (s : ByteArray) (a b : Int) : GeoV × Int :=
  match trkAt lp s (a / 86400000) with
  | none => (g0, 20)
  | some t =>
    if a / 86400000 = b / 86400000 then (spanV t (a - a / 86400000 * 86400000) (b - a / 86400000 * 86400000), 0)
    else match trkAt lp s (b / 86400000) with
      | none => (g0, 20)
      | some u => (joinV (spanV t (a - a / 86400000 * 86400000) 86400000) (spanV u 0 (b - b / 86400000 * 86400000)), 0)
noncomputable def knownB (lp : List PgV) (ls : List StarV) (s : ByteArray) : Bool := isA s || decide (0 ≤ fndS ls s) || Lib.containsS (tkL lp) s
noncomputable def whR (lp : List PgV) (ls : List StarV) (s : ByteArray) (a b : Int) : GeoV × Int :=
  if timB a b = false then (g0, 1)
  else if knownB lp ls s = false then (g0, 9)
  else if 86400000 ≤ b - a then (g0, 24)
  else if isA s = true then (⟨agL a b, agH a b, 0, 0, 0, 0, 0, 0⟩, 0)
  else match ls.find? (fun x => nmB x.s s) with
    | some x => (⟨sgL a b x.sha, sgH a b x.sha, dcL x.dec, dcH x.dec, 0, 0, 0, 0⟩, 0)
    | none => bodyR lp s a b
theorem idxR_two {α : Type} (p : α → Bool) : ∀ (l : List α) (k : Nat), (idxR p l k = -1 ∧ l.find? p = none) ∨ ∃ i x, idxR p l k = ((k + i : Nat) : Int) ∧ l[i]? = some x ∧ l.find? p = some x ∧ p x = true
  | [], k => .inl ⟨rfl, rfl⟩
  | y :: l, k => by
    unfold idxR
    cases hy : p y
    · rw [if_neg (by decide), List.find?_cons, hy]
      rcases idxR_two p l (k + 1) with ⟨h1, h2⟩ | ⟨i, x, h1, h2, h3, h4⟩
      · exact .inl ⟨h1, h2⟩
      · exact .inr ⟨i + 1, x, by rw [h1]; congr 1; omega, by rw [List.getElem?_cons_succ]; exact h2, h3, h4⟩
    · rw [if_pos rfl, List.find?_cons, hy]
      exact .inr ⟨0, y, rfl, rfl, rfl, hy⟩
theorem idxR_cases {α : Type} (p : α → Bool) (l : List α) : (idxR p l 0 = -1 ∧ l.find? p = none) ∨ ∃ (i : Nat) (x : α), idxR p l 0 = (i : Int) ∧ l[i]? = some x ∧ l.find? p = some x ∧ p x = true := by
  rcases idxR_two p l 0 with h | ⟨i, x, h1, h2⟩
  · exact .inl h
  · exact .inr ⟨i, x, by rw [h1, Nat.zero_add], h2⟩
inductive WhW (lp : List PgV) (ls : List StarV) (s : ByteArray) (a b : Int) : Prop
  | bad : timB a b = false → WhW lp ls s a b
  | name : timB a b = true → knownB lp ls s = false → WhW lp ls s a b
  | wide : timB a b = true → knownB lp ls s = true → 86400000 ≤ b - a → WhW lp ls s a b
  | aries : timB a b = true → b - a < 86400000 → isA s = true → WhW lp ls s a b
  | star (i : Nat) (x : StarV) : timB a b = true → b - a < 86400000 → isA s = false → fndS ls s = (i : Int) → ls[i]? = some x → ls.find? (fun x => nmB x.s s) = some x → WhW lp ls s a b
  | body : timB a b = true → b - a < 86400000 → isA s = false → fndS ls s = -1 → ls.find? (fun x => nmB x.s s) = none → Lib.containsS (tkL lp) s = true → WhW lp ls s a b
theorem whW (lp : List PgV) (ls : List StarV) (s : ByteArray) (a b : Int) : WhW lp ls s a b := by
  cases h1 : timB a b
  · exact .bad h1
  · cases h2 : knownB lp ls s
    · exact .name h1 h2
    · rcases Int.lt_or_le (b - a) 86400000 with h3 | h3
      · cases h4 : isA s
        · rcases idxR_cases (fun x : StarV => nmB x.s s) ls with ⟨h5, h6⟩ | ⟨i, x, h5, h6, h7, h8⟩
          · refine .body h1 h3 h4 h5 h6 ?_
            unfold knownB at h2
            rw [h4, show fndS ls s = -1 from h5] at h2
            simpa using h2
          · exact .star i x h1 h3 h4 h5 h6 h7
        · exact .aries h1 h3 h4
      · exact .wide h1 h2 h3
variable {lp : List PgV} {ls : List StarV} {s : ByteArray} {a b : Int}
theorem whR_bad (h : timB a b = false) : whR lp ls s a b = (g0, 1) := by unfold whR; rw [if_pos h]
theorem whR_name (h : timB a b = true) (k : knownB lp ls s = false) : whR lp ls s a b = (g0, 9) := by unfold whR; rw [if_neg (by rw [h]; decide), if_pos k]
theorem whR_wide (h : timB a b = true) (k : knownB lp ls s = true) (d : 86400000 ≤ b - a) : whR lp ls s a b = (g0, 24) := by
  unfold whR; rw [if_neg (by rw [h]; decide), if_neg (by rw [k]; decide), if_pos d]
theorem known_aries (h : isA s = true) : knownB lp ls s = true := by unfold knownB; rw [h]; simp
theorem known_star {i : Nat} (h : fndS ls s = (i : Int)) : knownB lp ls s = true := by unfold knownB; rw [h, decide_eq_true (by omega)]; simp
theorem known_body (h : Lib.containsS (tkL lp) s = true) : knownB lp ls s = true := by unfold knownB; rw [h]; simp
theorem whR_aries (h : timB a b = true) (d : b - a < 86400000) (k : isA s = true) : whR lp ls s a b = (⟨agL a b, agH a b, 0, 0, 0, 0, 0, 0⟩, 0) := by
  unfold whR; rw [if_neg (by rw [h]; decide), if_neg (by rw [known_aries k]; decide), if_neg (by omega), if_pos k]
theorem whR_star {i : Nat} {x : StarV} (h : timB a b = true) (d : b - a < 86400000) (k : isA s = false) (f : fndS ls s = (i : Int)) (g : ls.find? (fun x => nmB x.s s) = some x) :
    whR lp ls s a b = (⟨sgL a b x.sha, sgH a b x.sha, dcL x.dec, dcH x.dec, 0, 0, 0, 0⟩, 0) := by
  unfold whR; rw [if_neg (by rw [h]; decide), if_neg (by rw [known_star f]; decide), if_neg (by omega), if_neg (by rw [k]; decide), g]
theorem whR_body (h : timB a b = true) (d : b - a < 86400000) (k : isA s = false) (g : ls.find? (fun x => nmB x.s s) = none) (c : Lib.containsS (tkL lp) s = true) : whR lp ls s a b = bodyR lp s a b := by
  unfold whR; rw [if_neg (by rw [h]; decide), if_neg (by rw [known_body c]; decide), if_neg (by omega), if_neg (by rw [k]; decide), g]
theorem ordK_lt {lp : List PgV} (h : OrdK lp lp.length) : ∀ (i j : Nat) p q, i < j → lp[i]? = some p → lp[j]? = some q → numI p.y p.m p.d < numI q.y q.m q.d := by
  intro i j
  induction j with
  | zero => intro p q hij; omega
  | succ j ih =>
    intro p q hij hp hq
    have hj : j + 1 < lp.length := (List.getElem?_eq_some_iff.1 hq).1
    obtain ⟨r, hr⟩ : ∃ r, lp[j]? = some r := ⟨_, List.getElem?_eq_getElem (by omega)⟩
    have h2 := h j r q hj hr hq
    by_cases e : i = j
    · subst e; rw [hp] at hr; cases hr; exact h2
    · have := ih p r (by omega) hp hr; omega
theorem dys_sorted {lp : List PgV} (h : OrdK lp lp.length) : (dysL lp).Pairwise (· ≤ ·) := by
  rw [List.pairwise_iff_getElem]
  intro i j hi hj hij
  unfold dysL at hi hj ⊢
  rw [List.length_map] at hi hj
  rw [List.getElem_map, List.getElem_map]
  exact Int.le_of_lt (ordK_lt h i j _ _ hij (List.getElem?_eq_getElem hi) (List.getElem?_eq_getElem hj))
theorem dys_count : ∀ {lp : List PgV} {n : Int} {i : Nat} {p : PgV}, (∀ (i j : Nat) p q, i < j → lp[i]? = some p → lp[j]? = some q → numI p.y p.m p.d < numI q.y q.m q.d) → lp[i]? = some p → numI p.y p.m p.d = n → (dysL lp).countP (· < n) = i
  | [], _, _, _, _, hp, _ => by simp at hp
  | y :: l, n, 0, p, h, hp, hn => by
    simp only [List.getElem?_cons_zero, Option.some.injEq] at hp
    subst hp
    show List.countP _ (numI y.y y.m y.d :: dysL l) = 0
    rw [List.countP_eq_zero]
    intro z hz
    rcases List.mem_cons.1 hz with rfl | hz
    · simp; omega
    · unfold dysL at hz
      obtain ⟨q, hq, rfl⟩ := List.mem_map.1 hz
      obtain ⟨j, hj⟩ := List.mem_iff_getElem?.1 hq
      have := h 0 (j + 1) y q (by omega) rfl (by rw [List.getElem?_cons_succ]; exact hj)
      simp; omega
  | y :: l, n, i + 1, p, h, hp, hn => by
    rw [List.getElem?_cons_succ] at hp
    have h1 := h 0 (i + 1) y p (by omega) rfl (by rw [List.getElem?_cons_succ]; exact hp)
    have ih := dys_count (lp := l) (n := n) (i := i) (p := p) (fun a b c d e f g => h (a + 1) (b + 1) c d (by omega) (by rw [List.getElem?_cons_succ]; exact f) (by rw [List.getElem?_cons_succ]; exact g)) hp hn
    show List.countP _ (numI y.y y.m y.d :: dysL l) = i + 1
    rw [List.countP_cons, ih, if_pos (by simp; omega)]
theorem dys_has {lp : List PgV} {n : Int} : (dysL lp).contains n = decide (0 ≤ pgAt lp n) := by
  unfold pgAt
  rw [idxR_any, Bool.eq_iff_iff, List.contains_iff_mem, List.any_eq_true]
  unfold dysL
  rw [List.mem_map]
  constructor
  · rintro ⟨p, hp, h⟩; exact ⟨p, hp, decide_eq_true h⟩
  · rintro ⟨p, hp, h⟩; exact ⟨p, hp, of_decide_eq_true h⟩
end Go.Proofs.YtnnmfdeeicpdlaaGreat
/- Days, the page of a day, the track of a body on a day: the program's and the reference's. -/
namespace Go.Proofs.YtnnmfdeeicpdlaaGreat
set_option maxHeartbeats 2000000
set_option maxRecDepth 100000
open Go.RowKit Go.Shelf

theorem alm_day (a : Int) (w : World) (h1 : -9223372036854775807 ≤ a) (h2 : a ≤ 9223372036854775807) :
    Calls Tryz.prog 190 #[.int .i64 a] w fun e w' => e = .returned (.int .i64 (a / 86400000)) ∧ w' = w := by
  have hb : (1 : Int) ≤ 86400000 := by decide
  go_enter Tryz.func190, Tryz.ntmps190
  go_wp2
  · go_ret
    refine ⟨ret_int ?_, rfl⟩
    rw [IntWalk.wrap64_in]
    · exact floor_neg hb ‹_›
    · rw [floor_neg hb ‹_›]; have := ediv_bd hb 9223372036854775807 (by decide) h1 h2; omega
  · go_ret
    exact ⟨ret_int (floor_pos hb ‹_›), rfl⟩
theorem ref17_Day (a : Int) (w : World) (h1 : -9223372036854775807 ≤ a) (h2 : a ≤ 9223372036854775807) :
    Calls Tryz.prog 145 #[.int .i64 a] w fun e w' => e = .returned (.int .i64 (a / 86400000)) ∧ w' = w := by
  go_enter Tryz.func145, Tryz.ntmps145
  go_wp2_with (go_at_call 206; refine (ref05_Floor _ _ _ (by decide) (by omega) (by omega)).mono ?_; rintro e w' ⟨rfl, rfl⟩)
  go_ret
  exact ⟨rfl, rfl⟩
def PgPost (P : Nat → Prop) (w0 w : World) (p : Option PgV) (e : Ending) (w' : World) : Prop :=
  match p with
  | none => e = .returned (.tuple #[.agg #[.int .i64 0, .int .i64 0, .int .i64 0, .slice none 0 0], .bool false]) ∧ ∃ d, w' = bw w d
  | some p => ∃ x : PgW, e = .returned (.tuple #[.agg #[.int .i64 x.y, .int .i64 x.m, .int .i64 x.d, .slice x.ta x.tn x.tc], .bool true]) ∧ PgD P w0 x p ∧ ∃ d, w' = bw w d
structure BkL (P : Nat → Prop) (w : World) (bk : Nat) (vd vp vs : Value) (lp : List PgV) : Prop where
  bk : Bk w bk vd vp vs
  days : Sl w vd (dysL lp)
  pgs : PgsD P w vp lp
  ord : OrdK lp lp.length
  ok : ∀ p ∈ lp, PgOk p
  few : lp.length ≤ 40
theorem BkL.lay {P : Nat → Prop} {w : World} {bk : Nat} {vd vp vs : Value} {lp : List PgV} (h : BkL P w bk vd vp vs lp) (L : List (Obj ⊕ Ext)) : BkL P (lay w L) bk vd vp vs lp :=
  ⟨h.bk.lay L, h.days.lay L, h.pgs.lay L, h.ord, h.ok, h.few⟩
theorem drewN_lay (w : World) (L : List (Obj ⊕ Ext)) (n : Nat) : ∃ d, (lay w L).drewN n = lay w (.inr d :: L) := by
  refine ⟨⟨#[], ((lay w L).drewN n).drawn⟩, ?_⟩
  show (lay w L).drewN n = bw (lay w L) ⟨#[], ((lay w L).drewN n).drawn⟩
  induction n with
  | zero => exact (bw_noExt _).symm
  | succ n ih => simp [World.drewN, Go.Proofs.YtnnmfdeeicpdlaaGreat.bw]
theorem alm_page {P : Nat → Prop} (bk : Nat) (vd vp vs : Value) (lp : List PgV) (n : Int) (w0 w : World) (hE : Below w0.heap.size w0 w) (hB : BkL P w0 bk vd vp vs lp) :
    Calls Tryz.prog 239 #[.pointer (some ⟨bk, 0, none⟩), .int .i64 n] w (PgPost P w0 w (lp.find? (pgIs n))) := by
  obtain ⟨⟨k0, k1, k2, k3⟩, hD, hP, hO, hok, hfew⟩ := hB
  replace k1 : w.cell? ⟨bk, 0, none⟩ = some vd := (hE.cell (p := ⟨bk, 0, none⟩) k0).trans k1
  replace k2 : w.cell? ⟨bk, 1, none⟩ = some vp := (hE.cell (p := ⟨bk, 1, none⟩) k0).trans k2
  clear k3
  replace k0 : bk < w.heap.size := Nat.lt_of_lt_of_le k0 hE.size
  replace hD := hD.ext hE
  have hdl : (dysL lp).length = lp.length := by unfold dysL; rw [List.length_map]
  by_cases hz : lp = []
  · subst hz
    obtain ⟨a, c, hvd, -⟩ := hD
    cases hvd
    refine lay_start ?_
    go_enter Tryz.func239, Tryz.ntmps239
    go_wp2_with (go_at_call 283; refine (Tryz.slices_BinarySearch_int_empty _ _ _ _).mono ?_; rintro e w' ⟨rfl, rfl⟩)
    exact bodyPost_ret (v := .tuple #[.agg #[.int .i64 0, .int .i64 0, .int .i64 0, .slice none 0 0], .bool false]) (by simp [results, Tryz.results239, go_sem]) rfl ⟨rfl, lay_ex _ _⟩
  · have hlp : 0 < lp.length := List.length_pos_iff.2 hz
    obtain ⟨a, c, hvd, hcap, _, hd3⟩ := hD
    obtain ⟨bd, od, rfl, hbd, hcell⟩ := hd3 (by intro h; rw [h] at hdl; simp at hdl; omega)
    rw [hdl] at hvd
    subst hvd
    have HC : Hid (∀ L j, j < (dysL lp).length → (lay w L).cell? ⟨bd, od + j, none⟩ = some (.int .i64 ((dysL lp).getD j 0))) := Lib.hid (fun L j hj => (lay_old w L (od + j) bd hbd).trans (hcell j hj))
    have HSo := Lib.hid (dys_sorted hO)
    obtain ⟨q, hq⟩ : ∃ q, lp.length = q := ⟨_, rfl⟩
    have HQ := Lib.hid hq
    have HDl : Hid ((dysL lp).length = q) := Lib.hid (hdl.trans hq)
    have HTk : Hid ((dysL lp).take q = dysL lp) := Lib.hid (List.take_of_length_le (by rw [hdl, hq]; exact Nat.le_refl _))
    have HBS := Lib.hid (fun L => Tryz.slices_BinarySearch_int bd od q c (dysL lp) n (lay w L) (by rw [HDl.out]; exact Nat.le_refl _) (by omega) (HC.out L) (by rw [HTk.out]; exact HSo.out))
    rw [HTk.out] at HBS
    have hway := idxR_cases (pgIs n) lp
    have hcont := dys_has (lp := lp) (n := n)
    obtain ⟨bp, op, cp, hvp, hcc, hbp0, hPb, hr⟩ := hP.open hlp
    subst hvp
    have hbp : bp < w.heap.size := Nat.lt_of_lt_of_le hbp0 hE.size
    rw [hq] at hfew k1 k2 hcc
    unfold pgAt at hcont
    rcases hway with ⟨h1, h2⟩ | ⟨i, p, h1, h2, h3, h4⟩
    · rw [h1] at hcont
      rw [hcont] at HBS
      rw [h2]
      have t1 : decide ((0 : Int) ≤ -1) = false := by decide
      rw [t1] at HBS
      unfold PgPost
      generalize (List.countP (fun x => decide (x < n)) (dysL lp)) = cnt at *
      clear hcont hr h1 h2 hcell hlp hz hdl hok hO hq hcap t1 hE hbp0
      refine lay_start ?_
      go_enter Tryz.func239, Tryz.ntmps239
      go_wp2_with fail
      refine (HBS.out _).mono ?_
      rintro e w' ⟨rfl, dn, rfl⟩
      obtain ⟨d1, hd1⟩ := drewN_lay w [.inl (.cells #[.int .i64 0, .int .i64 0, .int .i64 0, .slice none 0 0] 108 (0, 0))] dn
      rw [hd1]
      go_wp2_with fail
      exact bodyPost_ret (v := .tuple #[.agg #[.int .i64 0, .int .i64 0, .int .i64 0, .slice none 0 0], .bool false]) (by simp [results, Tryz.results239, go_sem]) rfl ⟨rfl, lay_ex _ _⟩
    · rw [h1, decide_eq_true (by omega)] at hcont
      have hcnt : List.countP (fun x => decide (x < n)) (dysL lp) = i := dys_count (ordK_lt hO) h2 (of_decide_eq_true h4)
      rw [hcont, hcnt] at HBS
      rw [h3]
      have hi : i < q := by rw [← hq]; exact (List.getElem?_eq_some_iff.1 h2).1
      obtain ⟨x, hw, hD2, c0, c1, c2, c3⟩ := hr i p h2
      have HD2 := Lib.hid hD2
      replace c0 := (hE.cell (p := ⟨bp, op + i * 4, none⟩) hbp0).trans c0
      replace c1 := (hE.cell (p := ⟨bp, op + i * 4 + 1, none⟩) hbp0).trans c1
      replace c2 := (hE.cell (p := ⟨bp, op + i * 4 + 2, none⟩) hbp0).trans c2
      replace c3 := (hE.cell (p := ⟨bp, op + i * 4 + 3, none⟩) hbp0).trans c3
      have x1 : (i : Int) < (q : Int) := by omega
      have x0 : (0 : Int) ≤ (i : Int) := by omega
      unfold PgPost
      clear hcont hr h1 h2 hcell hlp hz hdl hok hO hq hcap hD2 hw hcnt hE hbp0
      obtain ⟨xy, xm, xd, xa, xn, xc⟩ := x
      dsimp only at c0 c1 c2 c3
      refine lay_start ?_
      go_enter Tryz.func239, Tryz.ntmps239
      go_wp2_with fail
      refine (HBS.out _).mono ?_
      rintro e w' ⟨rfl, dn, rfl⟩
      obtain ⟨d1, hd1⟩ := drewN_lay w [.inl (.cells #[.int .i64 0, .int .i64 0, .int .i64 0, .slice none 0 0] 108 (0, 0))] dn
      rw [hd1]
      go_wp2_with fail
      exact bodyPost_ret (v := .tuple #[.agg #[.int .i64 xy, .int .i64 xm, .int .i64 xd, .slice xa xn xc], .bool true]) (by simp [results, Tryz.results239, go_sem]) rfl ⟨⟨xy, xm, xd, xa, xn, xc⟩, rfl, HD2.out, lay_ex _ _⟩
theorem ref17_at {P : Nat → Prop} (vp vs : Value) (lp : List PgV) (n : Int) (w : World) (hp : PgsD P w vp lp) (hok : ∀ p ∈ lp, PgOk p) :
    Calls Tryz.prog 207 #[.agg #[vp, vs], .int .i64 n] w (IdxPost w (pgAt lp n)) := by
  unfold pgAt
  have HOk := Lib.hid hok
  by_cases hz : lp = []
  · subst hz
    obtain ⟨a, c, rfl⟩ := pgs_form hp
    refine lay_start ?_
    go_enter Tryz.func207, Tryz.ntmps207
    go_wp2_with fail
    refine wp_loop_rounds 1 ?_
    rw [rounds_succ]
    go_wp2
    go_ret
    exact ⟨rfl, lay_ex _ _⟩
  · obtain ⟨b, o, cap, rfl, hcc, hbb, -, hr⟩ := hp.open (List.length_pos_iff.2 hz)
    obtain ⟨q, hq⟩ : ∃ q, lp.length = q := ⟨_, rfl⟩
    have HQ := Lib.hid hq
    have HR := Lib.hid hr
    rw [hq] at hcc ⊢
    clear hr hp hz hq hok
    refine lay_start ?_
    go_enter Tryz.func207, Tryz.ntmps207
    go_wp2_with fail
    go_loopw [5] (fun v5 wr => ∃ (i : Nat) (dd : Ext), i ≤ q ∧ v5 = .int .i64 (i : Int) ∧ wr = lay w [.inr dd, .inl (.cells #[.slice (some ⟨b, o, none⟩) q cap, vs] 96 (0, 0))] ∧ idxR (pgIs n) lp 0 = idxR (pgIs n) (lp.drop i) i) (fun v5 _ => q - (intOf v5).toNat)
    case atStart => exact ⟨0, noExt _, Nat.zero_le _, rfl, (bw_noExt _).symm, rfl⟩
    case round =>
      obtain ⟨i, dd, hi, rfl, rfl, hA⟩ := hrel
      have HA := Lib.hid hA
      clear hA
      by_cases hlt : i < q
      · obtain ⟨p, hp⟩ : ∃ p, lp[i]? = some p := ⟨_, List.getElem?_eq_getElem (by rw [HQ.out]; exact hlt)⟩
        obtain ⟨x, hw, hD, c0, c1, c2, c3⟩ := HR.out i p hp
        have hdx := (HOk.out p (List.mem_of_getElem? hp)).dt
        rw [← hD.y, ← hD.m, ← hD.d] at hdx
        have HNx := Lib.hid (fun W => ref09_Number x.y x.m x.d W hdx)
        have hpx : pgIs n p = decide (numI x.y x.m x.d = n) := by unfold pgIs; rw [hD.y, hD.m, hD.d]
        generalize numI x.y x.m x.d = N at *
        have x1 : (i : Int) < (q : Int) := by omega
        have x0 : (0 : Int) ≤ (i : Int) := by omega
        clear hD hw hdx
        obtain ⟨xy, xm, xd, xa, xn, xc⟩ := x
        dsimp only at c0 c1 c2 c3 HNx
        by_cases hN : N = n
        · rw [decide_eq_true hN] at hpx
          have HN := Lib.hid (idxR_got hp hpx HA.out)
          have t1 : (N == n) = true := beq_iff_eq.2 hN
          clear hpx hp
          go_wp2_with (go_at_call 252; refine (HNx.out _).mono ?_; rintro e w' ⟨rfl, d2, rfl⟩)
          go_ret
          exact ⟨ret_int HN.out, lay_ex _ _⟩
        · rw [decide_eq_false hN] at hpx
          have HN := Lib.hid (idxR_miss hp hpx HA.out)
          have t1 : (N == n) = false := beq_eq_false_iff_ne.2 hN
          clear hpx hp
          go_wp2_with (go_at_call 252; refine (HNx.out _).mono ?_; rintro e w' ⟨rfl, d2, rfl⟩)
          go_roundw
          case rel => exact ⟨i + 1, _, by omega, by go_num, Classical.choose_spec (lay_fold w [_, _] _), HN.out⟩
          case measure => simp [intOf]; omega
      · obtain rfl : i = q := by omega
        have HN := Lib.hid (idxR_end (k := i) (by rw [HQ.out]; omega) HA.out)
        have x1 : ¬ (i : Int) < (i : Int) := by omega
        go_wp2
        go_ret
        exact ⟨ret_int HN.out, lay_ex _ _⟩
end Go.Proofs.YtnnmfdeeicpdlaaGreat

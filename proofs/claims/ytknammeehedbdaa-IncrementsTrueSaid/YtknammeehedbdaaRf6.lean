/- increments.gha, dec: the arcs of hours, the values over a span. -/
import Derived.Test.YtknammeehedbdaaProg
import Derived.Test.YtknammeehedbdaaLay
import Derived.Test.YtknammeehedbdaaRegion
import Derived.Test.YtknammeehedbdaaMix
import Derived.WalkKit
import Derived.WalkSpells
import Derived.WalkLawsBesides
import Derived.Lib.Hide
import Derived.BigQuiet
import Derived.Deep.RegionWith
import Derived.Test.YtknammeehedbdaaPlain
import Derived.Test.YtknammeehedbdaaAngle
import Derived.Test.YtknammeehedbdaaInc1
import Derived.Test.YtknammeehedbdaaTrk
import Derived.Test.YtknammeehedbdaaPg2
import Derived.Test.YtknammeehedbdaaRf3
import Derived.Test.YtknammeehedbdaaRf4
namespace Go.Proofs.Ytknammeehedbdaa
open Go.RowKit

set_option maxHeartbeats 400000 in
theorem inc_ghaC (bl g n cap : Nat) (x h : Int) (w : World) (b1 : bl < w.heap.size) (b2 : g < w.heap.size) (c1 : w.cell? ⟨bl, 0, none⟩ = some (.slice (some ⟨g, 0, none⟩) n cap))
    (k : Nat) (hk : h = (k : Int)) (hn : k < n) (c2 : w.cell? ⟨g, k, none⟩ = some (.int .i64 x)) (x1 : -1099511627776 ≤ x) (x2 : x ≤ 1099511627776) :
    Calls Try.prog 56 #[.int .i64 h, .pointer (some ⟨bl, 0, none⟩)] w fun e w' => e = .returned (.agg #[.int .i64 (x - 50), .int .i64 (x + 50)]) ∧ ∃ d, w' = bw w d := by
  subst hk
  have y0 : (0 : Int) ≤ (k : Int) := by omega
  have y1 : (k : Int) < (n : Int) := by omega
  refine lay_start ?_
  go_enter Try.func56, Try.ntmps56
  go_wp2_with (go_at_call 57; refine (inc_around _ _ x1 x2).mono ?_; rintro e w' ⟨rfl, d, rfl⟩)
  exact bodyPost_ret (v := (.agg #[.int .i64 (x - 50), .int .i64 (x + 50)])) (by simp [results, Try.results56, go_sem]) rfl ⟨rfl, lay_ex _ _⟩
set_option maxHeartbeats 400000 in
theorem inc_decC (bl b o n cap : Nat) (x h : Int) (w : World) (b1 : bl < w.heap.size) (b2 : b < w.heap.size) (c1 : w.cell? ⟨bl, 2, none⟩ = some (.slice (some ⟨b, o, none⟩) n cap))
    (k : Nat) (hk : h = (k : Int)) (hn : k < n) (c2 : w.cell? ⟨b, o + k, none⟩ = some (.int .i64 x)) (x1 : -54000 ≤ x) (x2 : x ≤ 54000) :
    Calls Try.prog 58 #[.int .i64 h, .pointer (some ⟨bl, 0, none⟩)] w fun e w' => e = .returned (.agg #[.int .i64 (100 * x - 50), .int .i64 (100 * x + 50)]) ∧ ∃ d, w' = bw w d := by
  subst hk
  have y0 : (0 : Int) ≤ (k : Int) := by omega
  have y1 : (k : Int) < (n : Int) := by omega
  refine lay_start ?_
  go_enter Try.func58, Try.ntmps58
  go_wp2_with (go_at_call 57; refine (inc_around _ _ (by omega) (by omega)).mono ?_; rintro e w' ⟨rfl, d, rfl⟩)
  exact bodyPost_ret (v := (.agg #[.int .i64 (100 * x - 50), .int .i64 (100 * x + 50)])) (by simp [results, Try.results58, go_sem]) rfl ⟨rfl, lay_ex _ _⟩
/-- The arcs of the hours, by the numbers of the hours. -/
def arcA (f : Nat → Int) (h : Int) : Int × Int := (f (min h.toNat 24) - 50, f (min h.toNat 24) + 50)
theorem arcA_ok {f : Nat → Int} (h : ∀ i, i ≤ 24 → -1000000000000 ≤ f i ∧ f i ≤ 1000000000000) : ArcsOk (arcA f) where
  lo := fun k => by have := h (min k.toNat 24) (Nat.min_le_right _ _); simp only [arcA]; omega
  hi := fun k => by have := h (min k.toNat 24) (Nat.min_le_right _ _); simp only [arcA]; omega
  le := fun k => by simp only [arcA]; omega
theorem arcA_at (f : Nat → Int) (k : Nat) (h : k ≤ 24) : arcA f (k : Int) = (f k - 50, f k + 50) := by
  unfold arcA; rw [show min (k : Int).toNat 24 = k by omega]
structure GD (t : TrkV) : Prop where
  lg : t.g.length = 25
  ld : t.d.length = 25
  bg : ∀ i, 0 ≤ nth t.g i ∧ nth t.g i ≤ 216000
  bd : ∀ i, -54000 ≤ nth t.d i ∧ nth t.d i ≤ 54000
  r0 : 0 ≤ t.r
  r1 : t.r ≤ 1000
theorem ang_ok {t : TrkV} (h : GD t) : ∀ i, i ≤ 24 → -1000000000000 ≤ ang t.g i ∧ ang t.g i ≤ 1000000000000 := fun i hi => by
  have := ang_bd t.g h.bg i; omega
def dcl (l : List Int) (i : Nat) : Int := 100 * nth l i
theorem dcl_ok {t : TrkV} (h : GD t) : ∀ i, i ≤ 24 → -1000000000000 ≤ dcl t.d i ∧ dcl t.d i ≤ 1000000000000 := fun i _ => by
  have := h.bd i; unfold dcl; omega
def ghaO (t : TrkV) (lo hi : Int) : Int × Int := ovr (arcA (ang t.g)) lo hi t.r
def decO (t : TrkV) (lo hi : Int) : Int × Int := ovr (arcA (dcl t.d)) lo hi t.r
theorem hullL_ind {P : Int × Int → Prop} (hh : ∀ x y, P x → P y → P (hull2 x y)) {l : List (Int × Int)} (hl : l ≠ []) (h : ∀ y ∈ l, P y) : P (hullL l) := by
  cases l with
  | nil => exact absurd rfl hl
  | cons x l =>
    have : ∀ (l : List (Int × Int)) x, P x → (∀ y ∈ l, P y) → P (l.foldl hull2 x) := by
      intro l
      induction l with
      | nil => exact fun x h _ => h
      | cons y l ih => exact fun x h k => ih _ (hh _ _ h (k y (List.mem_cons_self ..))) (fun z hz => k z (List.mem_cons_of_mem _ hz))
    exact this l x (h x (List.mem_cons_self ..)) (fun z hz => h z (List.mem_cons_of_mem _ hz))
theorem pcs_ne (A : Int → Int × Int) (lo hi : Int) : pcs A lo hi ≠ [] := by simp [pcs]
theorem pcs_mem {A : Int → Int × Int} {lo hi : Int} {y : Int × Int} (h : y ∈ pcs A lo hi) : y = (insL A lo, insH A lo) ∨ y = (insL A hi, insH A hi) ∨ ∃ i : Nat, i < nhr lo hi ∧ y = A (lo / 3600000 + 1 + i) := by
  unfold pcs hrs at h
  rcases List.mem_append.1 h with h | h
  · simp only [List.mem_cons, List.not_mem_nil, or_false] at h
    exact h.imp id .inl
  · obtain ⟨i, hi, rfl⟩ := List.mem_map.1 h
    exact .inr (.inr ⟨i, List.mem_range.1 hi, rfl⟩)
theorem ins_in {A : Int → Int × Int} {B : Int} (h : ∀ k, -B ≤ (A k).1 ∧ (A k).1 ≤ (A k).2 ∧ (A k).2 ≤ B) (ms : Int) : -B ≤ insL A ms ∧ insL A ms ≤ insH A ms ∧ insH A ms ≤ B := by
  unfold insL insH
  split
  · exact h _
  · exact ⟨lin_ge (h _).1 (h _).1 (by omega) (by omega), lin_mono (h _).2.1 (h _).2.1 (by omega) (by omega), lin_le (h _).2.2 (h _).2.2 (by omega) (by omega)⟩
theorem pcs_in {A : Int → Int × Int} {B : Int} (h : ∀ k, -B ≤ (A k).1 ∧ (A k).1 ≤ (A k).2 ∧ (A k).2 ≤ B) (lo hi : Int) : -B ≤ (hullL (pcs A lo hi)).1 ∧ (hullL (pcs A lo hi)).1 ≤ (hullL (pcs A lo hi)).2 ∧ (hullL (pcs A lo hi)).2 ≤ B := by
  refine hullL_ind (P := fun x => -B ≤ x.1 ∧ x.1 ≤ x.2 ∧ x.2 ≤ B) (fun x y hx hy => by unfold hull2; dsimp only at *; omega) (pcs_ne _ _ _) fun y hy => ?_
  rcases pcs_mem hy with rfl | rfl | ⟨i, _, rfl⟩
  · exact ins_in h _
  · exact ins_in h _
  · exact h _
theorem arcA_in {f : Nat → Int} {B : Int} (h : ∀ i, i ≤ 24 → -B ≤ f i ∧ f i ≤ B) : ∀ k, -(B + 50) ≤ (arcA f k).1 ∧ (arcA f k).1 ≤ (arcA f k).2 ∧ (arcA f k).2 ≤ B + 50 := fun k => by
  have := h (min k.toNat 24) (Nat.min_le_right _ _); simp only [arcA]; omega
theorem ovr_in {A : Int → Int × Int} {B : Int} (h : ∀ k, -B ≤ (A k).1 ∧ (A k).1 ≤ (A k).2 ∧ (A k).2 ≤ B) (lo hi r : Int) (r0 : 0 ≤ r) (r1 : r ≤ 1000) : -(B + 12500) ≤ (ovr A lo hi r).1 ∧ (ovr A lo hi r).1 ≤ (ovr A lo hi r).2 ∧ (ovr A lo hi r).2 ≤ B + 12500 := by
  have h1 := pcs_in h lo hi
  unfold ovr; split
  · omega
  · have : 0 ≤ cdiv (100 * r) 8 ∧ cdiv (100 * r) 8 ≤ 12500 := by unfold cdiv; omega
    dsimp only; omega
theorem ghaO_valid {t : TrkV} (h : GD t) (lo hi : Int) : validB (ghaO t lo hi).1 (ghaO t lo hi).2 = true := by
  have := ovr_in (arcA_in (ang_ok h)) lo hi t.r h.r0 h.r1
  rw [validB_iff]; unfold ghaO; omega
theorem decO_valid {t : TrkV} (h : GD t) (lo hi : Int) : validB (decO t lo hi).1 (decO t lo hi).2 = true := by
  have := ovr_in (arcA_in (dcl_ok h)) lo hi t.r h.r0 h.r1
  rw [validB_iff]; unfold decO; omega

set_option maxHeartbeats 4000000 in
theorem inc_gha (v : Value) (t : TrkV) (lo hi : Int) (w : World) (hv : Trk w v t) (hg : GD t) (l0 : 0 ≤ lo) (l1 : lo ≤ 86400000) (h0 : 0 ≤ hi) (h1 : hi ≤ 86400000) :
    Calls Try.prog 41 #[v, .int .i64 lo, .int .i64 hi] w fun e w' => e = .returned (.tuple #[(.agg #[.int .i64 (turnLo (ghaO t lo hi).1 (ghaO t lo hi).2), .int .i64 (turnHi (ghaO t lo hi).1 (ghaO t lo hi).2)]), .int .i64 0]) ∧ ∃ d, w' = bw w d := by
  obtain ⟨vg, vd, hvv, -⟩ := id hv
  subst hvv
  have HV := Lib.hid (fun L => hv.lay L)
  have HG := Lib.hid hg
  refine lay_start ?_
  go_enter Try.func41, Try.ntmps41
  go_wp2_with fail
  refine (inc_angles _ t _ (HV.out _) (by rw [HG.out.lg]; decide) (by rw [HG.out.lg]; decide) HG.out.bg).mono ?_
  rintro e w' ⟨v', d, rfl, rfl, hown⟩
  rw [HG.out.lg] at hown
  obtain ⟨g, cp, rfl⟩ := row_form hown (by decide)
  have hrow : ∀ k, k < 25 → (bw (lay w [.inl (.cells #[.int .i64 0, .int .i64 0] 23 (0, 0)), .inl (.cells #[.string t.s, vg, vd, .int .i64 t.p, .int .i64 t.q, .int .i64 t.r] 43 (0, 0))]) d).cell? ⟨g, k, none⟩ = some (.int .i64 (ang t.g k)) := fun k hk => by rw [hown.cellAt k (by omega)]; exact angs_get _ _ _ hk
  have hgb := (hown.lt g rfl).2
  clear hown
  go_wp2_with fail
  refine (inc_over (arcA (ang t.g)) 56 (.pointer (some ⟨posn w [d.n, 1, 1], 0, none⟩)) _ t lo hi _ (arcA_ok (ang_ok HG.out)) (HV.out _) l0 l1 h0 h1 HG.out.r0 (by have := HG.out.r1; omega) (enters_of Try.func56 (by kernel_rfl) rfl) ?hat).mono ?_
  case hat =>
    intro W h hK a b
    obtain ⟨k, rfl⟩ := Int.eq_ofNat_of_zero_le a
    rw [arcA_at _ k (by omega)]
    have hab := ang_ok HG.out k (by omega)
    have z1 : posn w [d.n, 1, 1] < (lay w [.inl (.cells #[.slice (some ⟨g, 0, none⟩) 25 cp] 32 (0, 0)), .inr d, .inl (.cells #[.int .i64 0, .int .i64 0] 23 (0, 0)), .inl (.cells #[.string t.s, vg, vd, .int .i64 t.p, .int .i64 t.q, .int .i64 t.r] 43 (0, 0))]).heap.size := by rw [lay_size]; simp only [posn, shp, List.sum_cons, List.sum_nil]; omega
    have z2 : g < (lay w [.inl (.cells #[.slice (some ⟨g, 0, none⟩) 25 cp] 32 (0, 0)), .inr d, .inl (.cells #[.int .i64 0, .int .i64 0] 23 (0, 0)), .inl (.cells #[.string t.s, vg, vd, .int .i64 t.p, .int .i64 t.q, .int .i64 t.r] 43 (0, 0))]).heap.size := Nat.lt_of_lt_of_le hgb (lay_extends (bw (lay w [.inl (.cells #[.int .i64 0, .int .i64 0] 23 (0, 0)), .inl (.cells #[.string t.s, vg, vd, .int .i64 t.p, .int .i64 t.q, .int .i64 t.r] 43 (0, 0))]) d) [.inl (.cells #[.slice (some ⟨g, 0, none⟩) 25 cp] 32 (0, 0))]).size
    exact inc_ghaC (posn w [d.n, 1, 1]) g 25 cp (ang t.g k) k W (Nat.lt_of_lt_of_le z1 hK.size) (Nat.lt_of_lt_of_le z2 hK.size)
      ((hK.cell z1).trans (cell_blk (lay_get w [.inl (.cells #[.slice (some ⟨g, 0, none⟩) 25 cp] 32 (0, 0)), .inr d, .inl (.cells #[.int .i64 0, .int .i64 0] 23 (0, 0)), .inl (.cells #[.string t.s, vg, vd, .int .i64 t.p, .int .i64 t.q, .int .i64 t.r] 43 (0, 0))] 0 _ rfl))) k rfl (by omega) ((hK.cell z2).trans (((lay_extends (bw (lay w [.inl (.cells #[.int .i64 0, .int .i64 0] 23 (0, 0)), .inl (.cells #[.string t.s, vg, vd, .int .i64 t.p, .int .i64 t.q, .int .i64 t.r] 43 (0, 0))]) d) [.inl (.cells #[.slice (some ⟨g, 0, none⟩) 25 cp] 32 (0, 0))]).cell (p := ⟨g, k, none⟩) hgb).trans (hrow k (by omega)))) (by omega) (by omega)
  rintro e w' ⟨rfl, d2, rfl⟩
  have HVD := Lib.hid (ghaO_valid hg lo hi)
  clear hrow hgb
  rw [show ovr (arcA (ang t.g)) lo hi t.r = ghaO t lo hi from rfl]
  obtain ⟨O, hO⟩ : ∃ O, ghaO t lo hi = O := ⟨_, rfl⟩
  rw [hO] at HVD ⊢
  go_wp2_with (go_at_call 54; refine (angle_Turn _ _ _ HVD.out).mono ?_; rintro e w' ⟨rfl, d, rfl⟩)
  exact bodyPost_ret (v := .tuple #[(.agg #[.int .i64 (turnLo O.1 O.2), .int .i64 (turnHi O.1 O.2)]), .int .i64 0]) (by simp [results, Try.results41, go_sem]) rfl ⟨by rw [hO], lay_ex _ _⟩

theorem lin_le2 {x0 x1 n B : Int} (h0 : x0 ≤ B) (h1 : x1 ≤ B) (n0 : 0 ≤ n) (n1 : n ≤ 3600000) : (x0 * (3600000 - n) + x1 * n) / 3600000 ≤ B := by
  have a := Int.mul_le_mul_of_nonneg_right h0 (show 0 ≤ 3600000 - n by omega)
  have b := Int.mul_le_mul_of_nonneg_right h1 n0
  rw [Int.mul_sub B] at a
  omega
theorem lin_ge2 {x0 x1 n B : Int} (h0 : B ≤ x0) (h1 : B ≤ x1) (n0 : 0 ≤ n) (n1 : n ≤ 3600000) : B ≤ cdiv (x0 * (3600000 - n) + x1 * n) 3600000 := by
  have a := Int.mul_le_mul_of_nonneg_right h0 (show 0 ≤ 3600000 - n by omega)
  have b := Int.mul_le_mul_of_nonneg_right h1 n0
  rw [Int.mul_sub B] at a
  unfold cdiv
  omega
theorem ovr_meets {A : Int → Int × Int} {B : Int} (h : ∀ k, (A k).1 ≤ B ∧ -B ≤ (A k).2) (lo hi r : Int) (r0 : 0 ≤ r) : (ovr A lo hi r).1 ≤ B ∧ -B ≤ (ovr A lo hi r).2 := by
  have hi1 : ∀ ms, insL A ms ≤ B ∧ -B ≤ insH A ms := fun ms => by
    unfold insL insH
    split
    · exact h _
    · exact ⟨lin_le2 (h _).1 (h _).1 (by omega) (by omega), lin_ge2 (h _).2 (h _).2 (by omega) (by omega)⟩
  have h1 : (hullL (pcs A lo hi)).1 ≤ B ∧ -B ≤ (hullL (pcs A lo hi)).2 := hullL_ind (P := fun x => x.1 ≤ B ∧ -B ≤ x.2) (fun x y hx hy => by unfold hull2; dsimp only at *; omega) (pcs_ne _ _ _) fun y hy => by
    rcases pcs_mem hy with rfl | rfl | ⟨i, _, rfl⟩
    · exact hi1 _
    · exact hi1 _
    · exact h _
  unfold ovr; split
  · exact h1
  · have : 0 ≤ cdiv (100 * r) 8 := by unfold cdiv; omega
    dsimp only; omega
theorem decO_meets {t : TrkV} (h : GD t) (lo hi : Int) : (decO t lo hi).1 ≤ 5400000 ∧ -5400000 ≤ (decO t lo hi).2 :=
  ovr_meets (fun k => by have := h.bd (min k.toNat 24); simp only [arcA, dcl]; omega) lo hi t.r h.r0
theorem dec_meet {t : TrkV} (h : GD t) (lo hi : Int) : mx (decO t lo hi).1 (-5400000) ≤ mn (decO t lo hi).2 5400000 := by
  have h1 := decO_meets h lo hi
  have h2 := validB_iff.1 (decO_valid h lo hi)
  rw [mx_eq, mn_eq]; omega

set_option maxHeartbeats 4000000 in
theorem inc_dec (v : Value) (t : TrkV) (lo hi : Int) (w : World) (hv : Trk w v t) (hg : GD t) (l0 : 0 ≤ lo) (l1 : lo ≤ 86400000) (h0 : 0 ≤ hi) (h1 : hi ≤ 86400000) :
    Calls Try.prog 42 #[v, .int .i64 lo, .int .i64 hi] w fun e w' => e = .returned (.tuple #[(.agg #[.int .i64 (mx (decO t lo hi).1 (-5400000)), .int .i64 (mn (decO t lo hi).2 5400000)]), .int .i64 0]) ∧ ∃ d, w' = bw w d := by
  obtain ⟨vg, vd, hvv, -, -, hd, -⟩ := id hv
  obtain ⟨a, cap, rfl, -, -, hcc⟩ := hd
  obtain ⟨b, o, rfl, hbs, hcc⟩ := hcc (by intro e; have := hg.ld; rw [e] at this; cases this)
  replace hcc : ∀ i, i < t.d.length → w.cell? ⟨b, o + i, none⟩ = some (.int .i64 (nth t.d i)) := hcc
  rw [hg.ld] at hcc hvv
  subst hvv
  have HV := Lib.hid (fun L => hv.lay L)
  have HG := Lib.hid hg
  refine lay_start ?_
  go_enter Try.func42, Try.ntmps42
  go_wp2_with fail
  refine (inc_over (arcA (dcl t.d)) 58 (.pointer (some ⟨posn w [], 0, none⟩)) _ t lo hi _ (arcA_ok (dcl_ok HG.out)) (HV.out _) l0 l1 h0 h1 HG.out.r0 (by have := HG.out.r1; omega) (enters_of Try.func58 (by kernel_rfl) rfl) ?hat).mono ?_
  case hat =>
    intro W h hK a b'
    obtain ⟨k, rfl⟩ := Int.eq_ofNat_of_zero_le a
    rw [arcA_at _ k (by omega)]
    have hab := HG.out.bd k
    have z1 : posn w [] < (lay w [.inl (.cells #[.int .i64 0, .int .i64 0] 23 (0, 0)), .inl (.cells #[.string t.s, vg, .slice (some ⟨b, o, none⟩) 25 cap, .int .i64 t.p, .int .i64 t.q, .int .i64 t.r] 43 (0, 0))]).heap.size := by rw [lay_size]; simp only [posn, shp, List.sum_cons, List.sum_nil]; omega
    have z2 : b < (lay w [.inl (.cells #[.int .i64 0, .int .i64 0] 23 (0, 0)), .inl (.cells #[.string t.s, vg, .slice (some ⟨b, o, none⟩) 25 cap, .int .i64 t.p, .int .i64 t.q, .int .i64 t.r] 43 (0, 0))]).heap.size := Nat.lt_of_lt_of_le hbs (lay_extends w _).size
    exact inc_decC (posn w []) b o 25 cap (nth t.d k) k W (Nat.lt_of_lt_of_le z1 hK.size) (Nat.lt_of_lt_of_le z2 hK.size)
      ((hK.cell z1).trans (cell_blk (lay_get w [.inl (.cells #[.int .i64 0, .int .i64 0] 23 (0, 0)), .inl (.cells #[.string t.s, vg, .slice (some ⟨b, o, none⟩) 25 cap, .int .i64 t.p, .int .i64 t.q, .int .i64 t.r] 43 (0, 0))] 1 _ rfl))) k rfl (by omega) ((hK.cell z2).trans (((lay_extends w [.inl (.cells #[.int .i64 0, .int .i64 0] 23 (0, 0)), .inl (.cells #[.string t.s, vg, .slice (some ⟨b, o, none⟩) 25 cap, .int .i64 t.p, .int .i64 t.q, .int .i64 t.r] 43 (0, 0))]).cell (p := ⟨b, o + k, none⟩) hbs).trans (hcc k (by omega)))) (by omega) (by omega)
  rintro e w' ⟨rfl, d2, rfl⟩
  have HVD := Lib.hid (decO_valid hg lo hi)
  have HMG := Lib.hid (meet_good (dec_meet hg lo hi))
  clear hcc
  rw [show ovr (arcA (dcl t.d)) lo hi t.r = decO t lo hi from rfl]
  obtain ⟨O, hO⟩ : ∃ O, decO t lo hi = O := ⟨_, rfl⟩
  rw [hO] at HVD HMG ⊢
  go_wp2_with (go_at_call 59; refine (angle_Meet _ _ _ _ _ HVD.out (by decide)).mono ?_; rintro e w' ⟨rfl, d, rfl⟩)
  obtain ⟨g1, g2, g3⟩ := HMG.out
  exact bodyPost_ret (v := .tuple #[(.agg #[.int .i64 (mx O.1 (-5400000)), .int .i64 (mn O.2 5400000)]), .int .i64 0]) (by simp [results, Try.results42, go_sem, g1, g2, g3]) rfl ⟨by rw [hO], lay_ex _ _⟩
end Go.Proofs.Ytknammeehedbdaa

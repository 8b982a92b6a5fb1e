/- Contracts and plain laws, several texts in one: Rv; Rw; Row; Srt -/
import Derived.Test.YtmomoeagnkjbiaaGreatProg
import Derived.WalkKit
import Derived.WalkSpells
import Derived.WalkLawsBesides
import Derived.Lib.Hide
import Derived.BigQuiet
import Derived.Deep.Slices
import Derived.Deep.AppendLies
import Derived.Maps.AppendAt
import Derived.Laws.AppendOwnNone
import Derived.Laws.OwnMore
import Derived.WideShapes
import Derived.Lib.SmallJoins
import Derived.Sort.OwnSortedInts
import Derived.Shelf.GgSortFunc.InsertionK
import Derived.Test.YtmomoeagnkjbiaaGreatBAA
import Derived.Test.YtmomoeagnkjbiaaGreatBAB
import Derived.Test.YtmomoeagnkjbiaaGreatBAS
/- The reference's quick sine of any angle, its floor, its ends. -/
namespace Go.Proofs.YtmomoeagnkjbiaaGreat
open Go.RowKit

set_option maxHeartbeats 4000000 in
set_option maxRecDepth 100000 in
theorem r6_Quick (n : Int) (w : World) :
    Calls Tryz.prog 181 #[.int .i64 n] w fun e w' => e = .returned (.int .i64 (qckV n)) ∧ ∃ d, w' = bw w d := by
  refine lay_start ?_
  have hc := tmod_turn n
  obtain ⟨t, ht⟩ : ∃ t, n.tmod 21600000 = t := ⟨_, rfl⟩
  rw [ht] at hc
  unfold qckV
  obtain ⟨m, hm⟩ : ∃ m, n % 21600000 = m := ⟨_, rfl⟩
  rw [hm] at hc ⊢
  have hm2 : 0 ≤ m ∧ m < 21600000 := by omega
  have kt : IntKind.i64.wrap t = t := IntWalk.i64_in _ (by omega)
  have km : IntKind.i64.wrap m = m := IntWalk.i64_in _ (by omega)
  have eq : m.tdiv 5400000 = m / 5400000 := Int.tdiv_eq_ediv_of_nonneg hm2.1
  have er : m.tmod 5400000 = m % 5400000 := Int.tmod_eq_emod_of_nonneg hm2.1
  have hqr : 5400000 * (m / 5400000) + m % 5400000 = m := by omega
  obtain ⟨q, hq⟩ : ∃ q, m / 5400000 = q := ⟨_, rfl⟩
  obtain ⟨r, hr⟩ : ∃ r, m % 5400000 = r := ⟨_, rfl⟩
  rw [hq, hr] at hqr ⊢
  rw [hq] at eq
  rw [hr] at er
  have hq2 : 0 ≤ q ∧ q ≤ 3 := by omega
  have hr2 : 0 ≤ r ∧ r < 5400000 := by omega
  have kr : IntKind.i64.wrap r = r := IntWalk.i64_in _ (by omega)
  obtain ⟨s, hs⟩ : ∃ s, 5400000 - r = s := ⟨_, rfl⟩
  have ks : IntKind.i64.wrap s = s := IntWalk.i64_in _ (by omega)
  rw [hs]
  have hst : t = m ∧ ¬ t < 0 ∨ t < 0 ∧ t + 21600000 = m := by omega
  by_cases hb : 2700000 < r
  · rw [if_pos hb]
    have Hq : ∀ c, Hid (∀ W, Calls Tryz.prog 199 #[.int .i64 s, .bool c] W fun e w' => e = .returned (.int .i64 (qkV s.toNat c)) ∧ ∃ d, w' = bw W d) := fun c => Lib.hid fun W => by
      have := r6_quick s.toNat c W (by omega)
      rwa [show ((s.toNat : Nat) : Int) = s by omega] at this
    have hv : ∀ c, -4611686018427388904 ≤ qkV s.toNat c ∧ qkV s.toNat c ≤ 4611686018427388904 := fun c => qkV_bd (by omega)
    have g := decide_eq_true hb
    generalize s.toNat = sn at *
    clear hm2 hc hqr hr2
    have hq4 : (q = 0 ∨ q = 2) ∨ (q = 1 ∨ q = 3) := by omega
    rcases hq4 with hq4 | hq4
    · have H := Hq true
      have hvv := hv true
      clear Hq hv hq hq2
      rcases hq4 with rfl | rfl
      all_goals
        simp only [Int.reduceMod, Int.reduceEq, decide_false, Bool.not_false, Int.reduceLE, if_true, if_false]
        generalize qkV sn true = V at *
        have kV : IntKind.i64.wrap (-V) = -V := IntWalk.i64_in _ (by omega)
        clear hvv
        rcases hst with ⟨rfl, h1⟩ | ⟨h1, h2⟩
        all_goals
          go_enter Tryz.func181, Tryz.ntmps181
          go_wp2_with (go_at_call 199; refine (H.out _).mono ?_; rintro e w' ⟨rfl, d1, rfl⟩)
          go_ret
          exact ⟨rfl, lay_ex _ _⟩
    · have H := Hq false
      have hvv := hv false
      clear Hq hv hq hq2
      rcases hq4 with rfl | rfl
      all_goals
        simp only [Int.reduceMod, decide_true, Bool.not_true, Int.reduceLE, if_true, if_false]
        generalize qkV sn false = V at *
        have kV : IntKind.i64.wrap (-V) = -V := IntWalk.i64_in _ (by omega)
        clear hvv
        rcases hst with ⟨rfl, h1⟩ | ⟨h1, h2⟩
        all_goals
          go_enter Tryz.func181, Tryz.ntmps181
          go_wp2_with (go_at_call 199; refine (H.out _).mono ?_; rintro e w' ⟨rfl, d1, rfl⟩)
          go_ret
          exact ⟨rfl, lay_ex _ _⟩
  · rw [if_neg hb]
    have Hq : ∀ c, Hid (∀ W, Calls Tryz.prog 199 #[.int .i64 r, .bool c] W fun e w' => e = .returned (.int .i64 (qkV r.toNat c)) ∧ ∃ d, w' = bw W d) := fun c => Lib.hid fun W => by
      have := r6_quick r.toNat c W (by omega)
      rwa [show ((r.toNat : Nat) : Int) = r by omega] at this
    have hv : ∀ c, -4611686018427388904 ≤ qkV r.toNat c ∧ qkV r.toNat c ≤ 4611686018427388904 := fun c => qkV_bd (by omega)
    have g := decide_eq_false hb
    generalize r.toNat = sn at *
    clear hm2 hc hqr hr2
    have hq4 : (q = 0 ∨ q = 2) ∨ (q = 1 ∨ q = 3) := by omega
    rcases hq4 with hq4 | hq4
    · have H := Hq false
      have hvv := hv false
      clear Hq hv hq hq2
      rcases hq4 with rfl | rfl
      all_goals
        simp only [Int.reduceMod, Int.reduceEq, decide_false, Int.reduceLE, if_true, if_false]
        generalize qkV sn false = V at *
        have kV : IntKind.i64.wrap (-V) = -V := IntWalk.i64_in _ (by omega)
        clear hvv
        rcases hst with ⟨rfl, h1⟩ | ⟨h1, h2⟩
        all_goals
          go_enter Tryz.func181, Tryz.ntmps181
          go_wp2_with (go_at_call 199; refine (H.out _).mono ?_; rintro e w' ⟨rfl, d1, rfl⟩)
          go_ret
          exact ⟨rfl, lay_ex _ _⟩
    · have H := Hq true
      have hvv := hv true
      clear Hq hv hq hq2
      rcases hq4 with rfl | rfl
      all_goals
        simp only [Int.reduceMod, decide_true, Int.reduceLE, if_true, if_false]
        generalize qkV sn true = V at *
        have kV : IntKind.i64.wrap (-V) = -V := IntWalk.i64_in _ (by omega)
        clear hvv
        rcases hst with ⟨rfl, h1⟩ | ⟨h1, h2⟩
        all_goals
          go_enter Tryz.func181, Tryz.ntmps181
          go_wp2_with (go_at_call 199; refine (H.out _).mono ?_; rintro e w' ⟨rfl, d1, rfl⟩)
          go_ret
          exact ⟨rfl, lay_ex _ _⟩
set_option maxHeartbeats 1000000 in
set_option maxRecDepth 100000 in
theorem r6_Floor (n : Int) (w : World) :
    Calls Tryz.prog 162 #[.int .i64 n] w fun e w' => e = .returned (.tuple #[.int .i64 (bLo n), .bool (exaQ (foldT n))]) ∧ ∃ d, w' = bw w d := by
  have HE := Lib.hid (fun W => r6_Exact n W)
  have HQ := Lib.hid (fun W => r6_Quick n W)
  have hcl := @qck_cell n
  refine lay_start ?_
  generalize exaQ (foldT n) = x at *
  generalize qckV n = v at *
  have hbl := bLo_in n
  generalize bLo n = b at *
  cases x
  · obtain ⟨h1, h2⟩ := hcl rfl
    rw [if_neg (by decide)] at HE
    obtain ⟨v1, hv1⟩ : ∃ v1, v - 256 = v1 := ⟨_, rfl⟩
    obtain ⟨v2, hv2⟩ : ∃ v2, v + 256 = v2 := ⟨_, rfl⟩
    have k1 : IntKind.i64.wrap v1 = v1 := IntWalk.i64_in _ (by omega)
    have k2 : IntKind.i64.wrap v2 = v2 := IntWalk.i64_in _ (by omega)
    have s1 : v1 / 4294967296 = b := by omega
    have s2 : v2 / 4294967296 = b := by omega
    have s3 : v / 4294967296 = b := by omega
    clear h1 h2 hcl
    go_enter Tryz.func162, Tryz.ntmps162
    go_wp2_with (first | (go_at_call 180; refine (HE.out _).mono ?_; rintro e w' ⟨rfl, d1, rfl⟩) | (go_at_call 181; refine (HQ.out _).mono ?_; rintro e w' ⟨rfl, d2, rfl⟩))
    go_ret2
    exact ⟨rfl, lay_ex _ _⟩
  · rw [if_pos rfl] at HE
    clear hcl
    go_enter Tryz.func162, Tryz.ntmps162
    go_wp2_with (first | (go_at_call 180; refine (HE.out _).mono ?_; rintro e w' ⟨rfl, d1, rfl⟩))
    go_ret2
    exact ⟨rfl, lay_ex _ _⟩
set_option maxHeartbeats 1000000 in
set_option maxRecDepth 100000 in
theorem r6_ends (n : Int) (w : World) :
    Calls Tryz.prog 127 #[.int .i64 n] w fun e w' => e = .returned (.tuple #[.int .i64 (bLo n), .int .i64 (bHi n)]) ∧ ∃ d, w' = bw w d := by
  have HF := Lib.hid (fun W => r6_Floor n W)
  have h1 := @bb_no n
  have h2 := @bb_ex n
  have hbl := bLo_in n
  refine lay_start ?_
  generalize exaQ (foldT n) = x at *
  generalize bLo n = b at *
  generalize bHi n = c at *
  cases x
  · have e := (h1 rfl).1
    subst e
    clear h1 h2
    have k1 : IntKind.i64.wrap (b + 1) = b + 1 := IntWalk.i64_in _ (by omega)
    go_enter Tryz.func127, Tryz.ntmps127
    go_wp2_with (go_at_call 162; refine (HF.out _).mono ?_; rintro e w' ⟨rfl, d1, rfl⟩)
    go_ret2
    exact ⟨rfl, lay_ex _ _⟩
  · have e := (h2 rfl).1
    subst e
    clear h1 h2
    go_enter Tryz.func127, Tryz.ntmps127
    go_wp2_with (go_at_call 162; refine (HF.out _).mono ?_; rintro e w' ⟨rfl, d1, rfl⟩)
    go_ret2
    exact ⟨rfl, lay_ex _ _⟩
end Go.Proofs.YtmomoeagnkjbiaaGreat
/- The reference's sines and cosines over arcs: has, sine, Sin, Cos. -/
namespace Go.Proofs.YtmomoeagnkjbiaaGreat
open Go.RowKit

theorem met_turn (lo hi : Int) : metB lo hi (-5400000) = metB lo hi 16200000 := by
  unfold metB
  rw [show ((-5400000 : Int) - lo) % 21600000 = (16200000 - lo) % 21600000 by omega]
set_option maxHeartbeats 1000000 in
set_option maxRecDepth 100000 in
theorem r6_has (lo hi n : Int) (h1 : -2199023255552 ≤ lo) (h2 : lo ≤ hi) (h3 : hi ≤ 2199023255552) (h4 : -21600000 ≤ n) (h5 : n ≤ 21600000) (w : World) :
    Calls Tryz.prog 128 #[(.agg #[.int .i64 (lo), .int .i64 (hi)]), .int .i64 n] w fun e w' => e = .returned (.bool (metB lo hi n)) ∧ ∃ d, w' = bw w d := by
  refine lay_start ?_
  obtain ⟨D, hD⟩ : ∃ D : Int, n - lo = D := ⟨_, rfl⟩
  have kD : IntKind.i64.wrap D = D := IntWalk.i64_in _ (by omega)
  have hc := tmod_turn D
  obtain ⟨t, ht⟩ : ∃ t, D.tmod 21600000 = t := ⟨_, rfl⟩
  rw [ht] at hc
  obtain ⟨q, hq⟩ : ∃ q, D % 21600000 = q := ⟨_, rfl⟩
  rw [hq] at hc
  have hq2 : 0 ≤ q ∧ q < 21600000 := by omega
  have kt : IntKind.i64.wrap t = t := IntWalk.i64_in _ (by omega)
  have kq : IntKind.i64.wrap q = q := IntWalk.i64_in _ (by omega)
  obtain ⟨E, hE⟩ : ∃ E : Int, lo + q = E := ⟨_, rfl⟩
  have kE : IntKind.i64.wrap E = E := IntWalk.i64_in _ (by omega)
  rw [show metB lo hi n = decide (E ≤ hi) by unfold metB; rw [hD, hq]; exact decide_eq_decide.2 (by omega)]
  have hst : t = q ∧ ¬ t < 0 ∨ t < 0 ∧ t + 21600000 = q := by omega
  clear hc hq2 h1 h2 h3 h4 h5 hq
  rcases hst with ⟨rfl, hs⟩ | ⟨hs, hs2⟩
  all_goals
    go_enter Tryz.func128, Tryz.ntmps128
    go_wp2_with fail
    go_ret
    exact ⟨rfl, lay_ex _ _⟩
set_option maxHeartbeats 1000000 in
set_option maxRecDepth 100000 in
theorem r6_sine (lo hi : Int) (h1 : -2199023255552 ≤ lo) (h2 : lo ≤ hi) (h3 : hi ≤ 2199023255552) (w : World) :
    Calls Tryz.prog 86 #[(.agg #[.int .i64 (lo), .int .i64 (hi)])] w fun e w' => e = .returned (.agg #[.int .i64 (encL lo hi), .int .i64 (encH lo hi)]) ∧ ∃ d, w' = bw w d := by
  refine lay_start ?_
  have HB1 := Lib.hid (fun W => r6_ends lo W)
  have HB2 := Lib.hid (fun W => r6_ends hi W)
  have HM1 := Lib.hid (fun W => r6_has lo hi 5400000 h1 h2 h3 (by decide) (by decide) W)
  have HM2 := Lib.hid (fun W => r6_has lo hi (-5400000) h1 h2 h3 (by decide) (by decide) W)
  rw [met_turn] at HM2
  rw [encL_at, encH_at]
  generalize bLo lo = p at *
  generalize bLo hi = q at *
  generalize bHi lo = r at *
  generalize bHi hi = s at *
  clear h1 h2 h3
  cases hm1 : metB lo hi 5400000 <;> cases hm2 : metB lo hi 16200000
  all_goals
    rw [hm1] at HM1
    rw [hm2] at HM2
    clear hm1 hm2
    simp only [Bool.false_eq_true, if_true, if_false]
    go_enter Tryz.func86, Tryz.ntmps86
    go_wp2_with (first | (go_at_call 127; first | (with_reducible refine (HB1.out _).mono ?_; rintro e w' ⟨rfl, d1, rfl⟩) | (with_reducible refine (HB2.out _).mono ?_; rintro e w' ⟨rfl, d2, rfl⟩)) | (go_at_call 128; first | (with_reducible refine (HM1.out _).mono ?_; rintro e w' ⟨rfl, d3, rfl⟩) | (with_reducible refine (HM2.out _).mono ?_; rintro e w' ⟨rfl, d4, rfl⟩)))
  · exact bodyPost_ret (v := (.agg #[.int .i64 (mn p q), .int .i64 (mx r s)])) (by simp [results, Tryz.results86, go_sem]) rfl ⟨rfl, lay_ex _ _⟩
  · exact bodyPost_ret (v := (.agg #[.int .i64 (-1073741824), .int .i64 (mx r s)])) (by simp [results, Tryz.results86, go_sem]) rfl ⟨rfl, lay_ex _ _⟩
  · exact bodyPost_ret (v := (.agg #[.int .i64 (mn p q), .int .i64 (1073741824)])) (by simp [results, Tryz.results86, go_sem]) rfl ⟨rfl, lay_ex _ _⟩
  · exact bodyPost_ret (v := (.agg #[.int .i64 (-1073741824), .int .i64 (1073741824)])) (by simp [results, Tryz.results86, go_sem]) rfl ⟨rfl, lay_ex _ _⟩
set_option maxRecDepth 100000 in
theorem r6_Sin (lo hi : Int) (hv : validB lo hi = true) (w : World) :
    Calls Tryz.prog 35 #[(.agg #[.int .i64 (lo), .int .i64 (hi)])] w fun e w' => e = .returned (.agg #[.int .i64 (encL lo hi), .int .i64 (encH lo hi)]) ∧ ∃ d, w' = bw w d := by
  refine lay_start ?_
  have h := validB_iff.1 hv
  have HE := Lib.hid (fun W => r6_sine lo hi (by omega) h.1 (by omega) W)
  clear h hv
  generalize encL lo hi = p at *
  generalize encH lo hi = q at *
  go_enter Tryz.func35, Tryz.ntmps35
  go_wp2_with (first | (go_at_call 86; refine (HE.out _).mono ?_; rintro e w' ⟨rfl, d, rfl⟩))
  exact bodyPost_ret (v := (.agg #[.int .i64 (p), .int .i64 (q)])) (by simp [results, Tryz.results35, go_sem]) rfl ⟨rfl, lay_ex _ _⟩
set_option maxRecDepth 100000 in
theorem r6_Cos (lo hi : Int) (hv : validB lo hi = true) (w : World) :
    Calls Tryz.prog 34 #[(.agg #[.int .i64 (lo), .int .i64 (hi)])] w fun e w' => e = .returned (.agg #[.int .i64 (encL (lo + 5400000) (hi + 5400000)), .int .i64 (encH (lo + 5400000) (hi + 5400000))]) ∧ ∃ d, w' = bw w d := by
  refine lay_start ?_
  have h := validB_iff.1 hv
  have HE := Lib.hid (fun W => r6_sine (lo + 5400000) (hi + 5400000) (by omega) (by omega) (by omega) W)
  have k1 : IntKind.i64.wrap (lo + 5400000) = lo + 5400000 := IntWalk.i64_in _ (by omega)
  have k2 : IntKind.i64.wrap (hi + 5400000) = hi + 5400000 := IntWalk.i64_in _ (by omega)
  clear h hv
  generalize encL (lo + 5400000) (hi + 5400000) = p at *
  generalize encH (lo + 5400000) (hi + 5400000) = q at *
  go_enter Tryz.func34, Tryz.ntmps34
  go_wp2_with (first | (go_at_call 86; refine (HE.out _).mono ?_; rintro e w' ⟨rfl, d, rfl⟩))
  exact bodyPost_ret (v := (.agg #[.int .i64 (p), .int .i64 (q)])) (by simp [results, Tryz.results34, go_sem]) rfl ⟨rfl, lay_ex _ _⟩
end Go.Proofs.YtmomoeagnkjbiaaGreat
/- Rows of records of k cells: slices that read as a list, rows of the call's own, an append of one record or of a whole slice, a store into a record. No function of the program. -/
namespace Go.Proofs.YtmomoeagnkjbiaaGreat
open Go.RowKit

/-- A kind of record: the element type, the slice type, the cells, the bytes; a record's cells; what holds of each record. -/
structure RecT (α : Type) where
  E : TypeId
  S : TypeId
  k : Nat
  bytes : Nat
  enc : α → List Value
  wf : α → Prop
structure RecOk {α : Type} (R : RecT α) : Prop where
  len : ∀ x, (R.enc x).length = R.k
  one : ∀ x, ∀ u ∈ R.enc x, u.oneCell' = true
  pos : 0 < R.k
  und : Tryz.prog.underlying R.S = some (.slice R.E)
  info : ∃ i z, Tryz.prog.info? R.E = some i ∧ i.zero = some z ∧ i.size = R.k ∧ i.bytes = R.bytes ∧ z.cells.size = R.k
  small : R.bytes ≤ 1000
variable {α : Type} {R : RecT α}

theorem flat_len (hR : RecOk R) (l : List α) : (l.flatMap R.enc).length = l.length * R.k := by
  induction l with
  | nil => simp
  | cons x l ih => rw [List.flatMap_cons, List.length_append, hR.len, ih, List.length_cons, Nat.succ_mul, Nat.add_comm]
theorem flat_get (hR : RecOk R) : ∀ {l : List α} {i j : Nat} {x : α}, l[i]? = some x → j < R.k → (l.flatMap R.enc)[i * R.k + j]? = (R.enc x)[j]?
  | [], i, j, x, h, _ => by simp at h
  | y :: l, 0, j, x, h, hj => by
    simp only [List.getElem?_cons_zero, Option.some.injEq] at h
    subst h
    rw [List.flatMap_cons, List.getElem?_append_left (by rw [hR.len]; omega)]
    congr 1; omega
  | y :: l, i + 1, j, x, h, hj => by
    rw [List.getElem?_cons_succ] at h
    rw [List.flatMap_cons, List.getElem?_append_right (by rw [hR.len, Nat.succ_mul]; omega), hR.len]
    rw [show (i + 1) * R.k + j - R.k = i * R.k + j by rw [Nat.succ_mul]; omega]
    exact flat_get hR h hj
theorem flat_set (hR : RecOk R) : ∀ {l : List α} {i j : Nat} {x y : α} {u : Value}, l[i]? = some x → j < R.k → R.enc y = (R.enc x).set j u → (l.flatMap R.enc).set (i * R.k + j) u = (l.set i y).flatMap R.enc
  | [], i, j, x, y, u, h, _, _ => by simp at h
  | z :: l, 0, j, x, y, u, h, hj, he => by
    simp only [List.getElem?_cons_zero, Option.some.injEq] at h
    subst h
    rw [List.set_cons_zero, List.flatMap_cons, List.flatMap_cons, List.set_append, if_pos (by rw [hR.len]; omega), he]
    congr 2; omega
  | z :: l, i + 1, j, x, y, u, h, hj, he => by
    rw [List.getElem?_cons_succ] at h
    rw [List.set_cons_succ, List.flatMap_cons, List.flatMap_cons, List.set_append, if_neg (by rw [hR.len, Nat.succ_mul]; omega), hR.len]
    rw [show (i + 1) * R.k + j - R.k = i * R.k + j by rw [Nat.succ_mul]; omega, flat_set hR h hj he]

/-- The value is a slice that reads, in this world, as these records. -/
def SlG (R : RecT α) (w : World) (v : Value) (l : List α) : Prop :=
  ∃ a cap, v = .slice a l.length cap ∧ (l.length ≤ cap ∧ cap ≤ 9223372036854775807) ∧ (∀ x ∈ l, R.wf x) ∧
    (l ≠ [] → ∃ b o, a = some ⟨b, o, none⟩ ∧ b < w.heap.size ∧ ∀ (i : Nat) x, l[i]? = some x → ∀ (j : Nat) u, (R.enc x)[j]? = some u → w.cell? ⟨b, o + (i * R.k + j), none⟩ = some u)
theorem SlG.ext {w w' : World} {v : Value} {l : List α} (h : SlG R w v l) (hb : Below w.heap.size w w') : SlG R w' v l := by
  obtain ⟨a, cap, h1, h2, h0, h3⟩ := h
  refine ⟨a, cap, h1, h2, h0, fun hl => ?_⟩
  obtain ⟨b, o, h4, h5, h6⟩ := h3 hl
  exact ⟨b, o, h4, Nat.lt_of_lt_of_le h5 hb.size, fun i x hx j u hu => (hb.cell (p := ⟨b, o + (i * R.k + j), none⟩) h5).trans (h6 i x hx j u hu)⟩
theorem SlG.bw {w : World} {v : Value} {l : List α} (h : SlG R w v l) (d : Ext) : SlG R (bw w d) v l := h.ext (bw_below w d)
theorem SlG.lay {w : World} {v : Value} {l : List α} (h : SlG R w v l) (L : List (Obj ⊕ Ext)) : SlG R (lay w L) v l := h.ext (lay_extends w L)
theorem lay_appG (w : World) (A B : List (Obj ⊕ Ext)) : lay w (A ++ B) = lay (lay w B) A := by
  induction A with
  | nil => rfl
  | cons x A ih =>
    cases x with
    | inl o => exact congrArg (fun W => World.alloc W o) ih
    | inr d => exact congrArg (fun W => Go.Proofs.YtmomoeagnkjbiaaGreat.bw W d) ih
theorem lay_belowG {w : World} {A B : List (Obj ⊕ Ext)} : Below (lay w B).heap.size (lay w B) (lay w (A ++ B)) := by rw [lay_appG]; exact lay_extends _ _
theorem slG_on {w : World} {v : Value} {l : List α} {A B : List (Obj ⊕ Ext)} (h : SlG R (lay w B) v l) : SlG R (lay w (A ++ B)) v l := h.ext lay_belowG
theorem SlG.nil (R : RecT α) (w : World) : SlG R w (.slice none 0 0) [] := ⟨none, 0, rfl, by simp, fun _ h => absurd h (List.not_mem_nil), fun h => absurd rfl h⟩
theorem slG_none {w : World} {a : Option Addr} {c : Nat} (hc : c ≤ 9223372036854775807) : SlG R w (.slice a 0 c) [] := ⟨a, c, rfl, ⟨Nat.zero_le _, hc⟩, fun _ h => absurd h (List.not_mem_nil), fun h => absurd rfl h⟩
theorem SlG.open {w : World} {v : Value} {l : List α} (h : SlG R w v l) (hl : 0 < l.length) :
    ∃ b o cap, v = .slice (some ⟨b, o, none⟩) l.length cap ∧ (l.length ≤ cap ∧ cap ≤ 9223372036854775807) ∧ b < w.heap.size ∧ ∀ (i : Nat) x, l[i]? = some x → ∀ (j : Nat) u, (R.enc x)[j]? = some u → w.cell? ⟨b, o + (i * R.k + j), none⟩ = some u := by
  obtain ⟨a, cap, rfl, h2, _, h3⟩ := h
  obtain ⟨b, o, rfl, h5, h6⟩ := h3 (by intro e; rw [e] at hl; exact Nat.lt_irrefl 0 hl)
  exact ⟨b, o, cap, rfl, h2, h5, h6⟩
theorem SlG.wf {w : World} {v : Value} {l : List α} (h : SlG R w v l) : ∀ x ∈ l, R.wf x := by
  obtain ⟨_, _, _, _, h, _⟩ := h; exact h
theorem SlG.form {w : World} {v : Value} {l : List α} (h : SlG R w v l) : ∃ a cap, v = .slice a l.length cap := by
  obtain ⟨a, c, e, _⟩ := h; exact ⟨a, c, e⟩
theorem slG_cut {w : World} {b o n cap f k c : Nat} {l : List α} (h : SlG R w (.slice (some ⟨b, o, none⟩) n cap) l) (hf : f + k ≤ l.length) (hc : k ≤ c ∧ c ≤ 9223372036854775807) : SlG R w (.slice (some ⟨b, o + f * R.k, none⟩) k c) ((l.drop f).take k) := by
  have hl : ((l.drop f).take k).length = k := by rw [List.length_take, List.length_drop]; omega
  obtain ⟨a', cap', he, hcc, hwf, hcell⟩ := h
  simp only [Value.slice.injEq] at he
  obtain ⟨he, rfl, rfl⟩ := he
  refine ⟨_, c, by rw [hl], by rw [hl]; exact hc, fun x hx => hwf x (List.mem_of_mem_drop (List.mem_of_mem_take hx)), fun hne => ⟨b, o + f * R.k, rfl, ?_⟩⟩
  have hk : 0 < k := by rw [← hl]; exact List.length_pos_iff.2 hne
  obtain ⟨b', o', e, hb, hr⟩ := hcell (by intro e; rw [e] at hf; simp at hf; omega)
  rw [← he] at e
  cases e
  refine ⟨hb, fun i x hx j u hu => ?_⟩
  have hi : i < k := by
    have := (List.getElem?_eq_some_iff.1 hx).1
    rw [hl] at this; exact this
  rw [List.getElem?_take, if_pos hi, List.getElem?_drop] at hx
  have := hr _ x hx j u hu
  rw [Nat.add_mul] at this
  rw [Nat.add_assoc, ← Nat.add_assoc (f * R.k)]
  exact this

/-- The value is a row of the call's own (its blocks behind base) that holds these records. -/
def OwG (R : RecT α) (w : World) (base : Nat) (v : Value) (l : List α) : Prop :=
  w.ownsRow base R.E R.k v l.length (l.flatMap R.enc) ∧ ∀ x ∈ l, R.wf x
theorem OwG.nil (R : RecT α) (w : World) (base : Nat) : OwG R w base (.slice none 0 0) [] := ⟨World.ownsRow_nil w base _ _, fun _ h => absurd h (List.not_mem_nil)⟩
theorem OwG.form {w : World} {base : Nat} {v : Value} {l : List α} (h : OwG R w base v l) : ∃ a cap, v = .slice a l.length cap := by
  rcases h.1.2 with ⟨rfl, hz⟩ | ⟨g, cap, cur, rfl, _⟩
  · exact ⟨none, 0, by rw [hz]⟩
  · exact ⟨_, cap, rfl⟩
theorem OwG.form1 {w : World} {base : Nat} {v : Value} {l : List α} (h : OwG R w base v l) (hl : 0 < l.length) : ∃ g cap, v = .slice (some ⟨g, 0, none⟩) l.length cap ∧ base ≤ g ∧ g < w.heap.size ∧ l.length ≤ cap ∧ cap ≤ 9223372036854775807 := by
  rcases h.1.2 with ⟨rfl, hz⟩ | ⟨g, cap, cur, rfl, h1, h2, h3, h4, _⟩
  · omega
  · have hM : maxLen = 9223372036854775807 := by decide
    exact ⟨g, cap, rfl, h1, (Array.getElem?_eq_some_iff.1 h2).1, h3, by omega⟩
theorem OwG.cell (hR : RecOk R) {w : World} {base g cap n : Nat} {l : List α} (h : OwG R w base (.slice (some ⟨g, 0, none⟩) n cap) l) {i j : Nat} {x : α} {u : Value} (hx : l[i]? = some x) (hu : (R.enc x)[j]? = some u) : w.cell? ⟨g, i * R.k + j, none⟩ = some u := by
  have hn : n = l.length := by
    obtain ⟨a, c, e⟩ := h.form
    cases e; rfl
  subst hn
  have hi := (List.getElem?_eq_some_iff.1 hx).1
  have hj : j < R.k := by have := (List.getElem?_eq_some_iff.1 hu).1; rw [hR.len] at this; exact this
  rw [h.1.cellAt _ (by have : (i + 1) * R.k ≤ l.length * R.k := Nat.mul_le_mul_right _ hi
                       rw [Nat.succ_mul] at this; omega), flat_get hR hx hj, hu]
theorem OwG.froz {w : World} {base g cap n : Nat} {l : List α} (h : OwG R w base (.slice (some ⟨g, 0, none⟩) n cap) l) (j : Nat) : w.frozen? ⟨g, j, none⟩ = false := by
  have hn : n = l.length := by
    obtain ⟨a, c, e⟩ := h.form
    cases e; rfl
  subst hn
  exact h.1.frozenAt j
theorem OwG.sl (hR : RecOk R) {w : World} {base : Nat} {v : Value} {l : List α} (h : OwG R w base v l) : SlG R w v l := by
  by_cases hl : l = []
  · subst hl
    rcases h.1.2 with ⟨rfl, hz⟩ | ⟨g, cap, cur, rfl, _, _, h3, h4, _⟩
    · exact SlG.nil R w
    · have hM : maxLen = 9223372036854775807 := by decide
      exact ⟨_, cap, rfl, ⟨h3, by omega⟩, h.2, fun hne => absurd rfl hne⟩
  · have hl' : 0 < l.length := List.length_pos_iff.2 hl
    obtain ⟨g, cap, rfl, h1, h2, h3⟩ := h.form1 hl'
    exact ⟨_, cap, rfl, h3, h.2, fun _ => ⟨g, 0, rfl, h2, fun i x hx j u hu => by rw [Nat.zero_add]; exact h.cell hR hx hu⟩⟩
theorem OwG.ext {w w' : World} {base : Nat} {v : Value} {l : List α} (h : OwG R w base v l) (hb : Below w.heap.size w w') : OwG R w' base v l := by
  refine ⟨⟨h.1.1, h.1.2.imp id ?_⟩, h.2⟩
  rintro ⟨g, cap, cur, e, h1, h2, h3⟩
  exact ⟨g, cap, cur, e, h1, (hb.block g (Array.getElem?_eq_some_iff.1 h2).1).trans h2, h3⟩
theorem OwG.lay {w : World} {base : Nat} {v : Value} {l : List α} (h : OwG R w base v l) (L : List (Obj ⊕ Ext)) : OwG R (lay w L) base v l := h.ext (lay_extends w L)
theorem OwG.bw {w : World} {base : Nat} {v : Value} {l : List α} (h : OwG R w base v l) (d : Ext) : OwG R (bw w d) base v l := h.ext (bw_below w d)
theorem OwG.le {w : World} {base base' : Nat} {v : Value} {l : List α} (h : OwG R w base v l) (hb : base' ≤ base) : OwG R w base' v l := ⟨⟨h.1.1, h.1.2.imp id fun ⟨g, cap, cur, e, h1, h2⟩ => ⟨g, cap, cur, e, Nat.le_trans hb h1, h2⟩⟩, h.2⟩
theorem owG_on {w : World} {base : Nat} {v : Value} {l : List α} {A B : List (Obj ⊕ Ext)} (h : OwG R (lay w B) base v l) : OwG R (lay w (A ++ B)) base v l := h.ext lay_belowG

/-- An append of one record that was just laid down. -/
theorem push_rec (hR : RecOk R) {ops : Array Oper} {rest : List Oper} {o : Oper} {a : Act} {Q : Exit → Act → World → Prop} (hgd : o.guard = none) (s x : Operand)
    (ho : o.op = .call { callee := .builtin .append, args := #[s, x], argTypes := #[R.S, R.S] })
    (W0 : World) (wb : World) (c : α) (cs : Array Value) (te : TypeId) (xb : Nat) (v : Value) (l : List α) (hw : Below W0.heap.size W0 wb) (hown : OwG R wb W0.heap.size v l)
    (hcell : wb.heap[xb]? = some (.cells cs te (0, 0))) (hcs : cs.toList = R.enc c) (hs : a.eval s = v) (hx : a.eval x = .slice (some ⟨xb, 0, none⟩) 1 1)
    (hn : l.length ≤ 1000000000) (hc : R.wf c)
    (h : ∀ v' d, OwG R (Go.Proofs.YtmomoeagnkjbiaaGreat.bw W0 d) W0.heap.size v' (l ++ [c]) → wpList Tryz.prog ops Q rest (a.put o.dst v') (Go.Proofs.YtmomoeagnkjbiaaGreat.bw W0 d)) :
    wpList Tryz.prog ops Q (o :: rest) a wb := by
  obtain ⟨i, z, hi, hz0, hz1, hz2, hz3⟩ := hR.info
  have hM : maxLen = 9223372036854775807 := by decide
  have hb := hR.small
  have hb2 : (l.length + 1) * R.bytes ≤ 1000000001 * 1000 := Nat.mul_le_mul (by omega) hb
  refine wpList_append_lies wb hgd s x R.S ho W0.heap.size R.E i z R.k R.bytes hR.und hi hz0 hz1 hz2 hz3 hR.pos v l.length (l.flatMap R.enc) hs hown.1 ⟨xb, 0, none⟩ 1 1 (R.enc c) hx (by rw [hR.len, Nat.one_mul]) (by rw [← hcs]; exact World.news_of_block hcell) (hR.one c) (by decide) (by omega) (by omega) hw.size wb.heap.size rfl ?_
  intro g cap w' hown' hg hat _
  obtain ⟨d, hd⟩ := bw_of (w := W0) (w' := w') (hw.grown hg hw.size (fun k hk => (hown.1.lt k hk).1))
  subst hd
  refine h _ d ⟨?_, fun y hy => ?_⟩
  · rw [List.flatMap_append, List.length_append]
    simpa using hown'
  · rcases List.mem_append.1 hy with hy | hy
    · exact hown.2 y hy
    · rw [List.mem_singleton.1 hy]; exact hc
/-- An append of a whole slice that reads. -/
theorem push_slG (hR : RecOk R) {ops : Array Oper} {rest : List Oper} {o : Oper} {a : Act} {Q : Exit → Act → World → Prop} (hgd : o.guard = none) (s x : Operand)
    (ho : o.op = .call { callee := .builtin .append, args := #[s, x], argTypes := #[R.S, R.S] })
    (W0 : World) (wb : World) (v1 : Value) (l1 : List α) (A : Option Addr) (n c : Nat) (l2 : List α) (hw : Below W0.heap.size W0 wb) (hown : OwG R wb W0.heap.size v1 l1)
    (hsrc : SlG R wb (.slice A n c) l2) (hA : A = none → c = 0) (hs : a.eval s = v1) (hx : a.eval x = .slice A n c) (hn : l1.length + l2.length ≤ 1000000000)
    (h : ∀ v' d, OwG R (Go.Proofs.YtmomoeagnkjbiaaGreat.bw W0 d) W0.heap.size v' (l1 ++ l2) → wpList Tryz.prog ops Q rest (a.put o.dst v') (Go.Proofs.YtmomoeagnkjbiaaGreat.bw W0 d)) :
    wpList Tryz.prog ops Q (o :: rest) a wb := by
  obtain ⟨i, z, hi, hz0, hz1, hz2, hz3⟩ := hR.info
  have hM : maxLen = 9223372036854775807 := by decide
  obtain ⟨a', cap', he, hcc, hwf, hcell⟩ := hsrc
  simp only [Value.slice.injEq] at he
  obtain ⟨rfl, rfl, rfl⟩ := he
  cases A with
  | none =>
    obtain rfl := hA rfl
    have hl2 : l2 = [] := by
      rcases List.eq_nil_or_concat l2 with h | ⟨_, _, h⟩
      · exact h
      · have : l2 ≠ [] := by rw [h]; simp
        obtain ⟨_, _, h, _⟩ := hcell this
        cases h
    subst hl2
    obtain ⟨d, rfl⟩ := bw_of hw
    refine wpList_append_own_none hgd s x R.S ho W0.heap.size R.E i R.k hR.und hi v1 l1.length (l1.flatMap R.enc) hs hown.1 hx ?_
    exact h v1 d (by rw [List.append_nil]; exact hown)
  | some ad =>
    have hb2 : (l1.length + l2.length) * R.bytes ≤ 1000000000 * 1000 := Nat.mul_le_mul hn hR.small
    refine wpList_append_own wb hgd s x R.S ho W0.heap.size R.E i z R.k R.bytes hR.und hi hz0 hz1 hz2 hz3 hR.pos v1 l1.length (l1.flatMap R.enc) hs hown.1 ad l2.length c (l2.flatMap R.enc) hx (flat_len hR l2) ?_ ?_ (by omega) (by omega) hw.size ?_
    · intro j u hu
      have hj : j < l2.length * R.k := by have := (List.getElem?_eq_some_iff.1 hu).1; rw [flat_len hR] at this; exact this
      have hne : l2 ≠ [] := by intro e; rw [e] at hj; simp at hj
      obtain ⟨b, o', e, _, hr⟩ := hcell hne
      cases e
      have hq : j / R.k < l2.length := Nat.div_lt_of_lt_mul (by rw [Nat.mul_comm]; exact hj)
      have hm : j % R.k < R.k := Nat.mod_lt _ hR.pos
      have e1 : j = j / R.k * R.k + j % R.k := by rw [Nat.mul_comm]; exact (Nat.div_add_mod j R.k).symm
      have hx' : l2[j / R.k]? = some l2[j / R.k] := List.getElem?_eq_getElem hq
      rw [e1, flat_get hR hx' hm] at hu
      have h3 := hr _ _ hx' _ _ hu
      rw [← e1] at h3
      have hadd : (⟨b, o', none⟩ : Addr).add j = ⟨b, o' + j, none⟩ := by
        unfold Addr.add
        split
        · rename_i h0
          have : j = 0 := by simpa using h0
          subst this; rfl
        · rfl
      rw [hadd]
      exact h3
    · intro u hu
      obtain ⟨y, _, hy⟩ := List.mem_flatMap.1 hu
      exact hR.one y u hy
    · intro v' w' hown' hg _
      obtain ⟨d, hd⟩ := bw_of (w := W0) (w' := w') (hw.grown hg hw.size (fun k hk => (hown.1.lt k hk).1))
      subst hd
      refine h v' d ⟨by rw [List.length_append, List.flatMap_append]; exact hown', fun y hy => ?_⟩
      rcases List.mem_append.1 hy with hy | hy
      · exact hown.2 y hy
      · exact hwf y hy
/-- An empty literal. -/
theorem owG_empty (R : RecT α) {w : World} {L : List (Obj ⊕ Ext)} : OwG R (Go.Proofs.YtmomoeagnkjbiaaGreat.lay w (.inl (.cells #[] R.E (0, 0)) :: L)) (Go.Proofs.YtmomoeagnkjbiaaGreat.lay w L).heap.size (.slice (some ⟨posn w (shp L), 0, none⟩) 0 0) [] := by
  rw [← lay_size w L]
  exact ⟨World.ownsRow_lit (Go.Proofs.YtmomoeagnkjbiaaGreat.lay w L) #[] 0 (Nat.le_refl _) (by decide) (by simp), fun _ h => absurd h (List.not_mem_nil)⟩
/-- A literal. -/
theorem owG_lit (hR : RecOk R) {w : World} {L : List (Obj ⊕ Ext)} {cs : Array Value} (l : List α) (hc : cs.toList = l.flatMap R.enc) (hl : l.length ≤ 1000) (hw : ∀ x ∈ l, R.wf x) :
    OwG R (Go.Proofs.YtmomoeagnkjbiaaGreat.lay w (.inl (.cells cs R.E (0, 0)) :: L)) (Go.Proofs.YtmomoeagnkjbiaaGreat.lay w L).heap.size (.slice (some ⟨posn w (shp L), 0, none⟩) l.length l.length) l := by
  rw [← lay_size w L]
  refine ⟨?_, hw⟩
  have := World.ownsRow_lit (base := (Go.Proofs.YtmomoeagnkjbiaaGreat.lay w L).heap.size) (e := R.E) (size := R.k) (Go.Proofs.YtmomoeagnkjbiaaGreat.lay w L) cs l.length (Nat.le_refl _) (by unfold maxLen; omega) (by rw [← Array.length_toList, hc, flat_len hR])
  rw [hc] at this
  exact this
/-- A store into a field of a record of such a row. -/
theorem owG_store (hR : RecOk R) {w : World} {base g cap n : Nat} {l : List α} (h : OwG R w base (.slice (some ⟨g, 0, none⟩) n cap) l) {i j : Nat} {x y : α} {u : Value} (hx : l[i]? = some x) (hj : j < R.k) (he : R.enc y = (R.enc x).set j u) (hy : R.wf y) :
    OwG R (w.setCell ⟨g, i * R.k + j, none⟩ u) base (.slice (some ⟨g, 0, none⟩) n cap) (l.set i y) := by
  have hn : n = l.length := by
    obtain ⟨a, c, e⟩ := h.form
    cases e; rfl
  subst hn
  refine ⟨by have := (h.1.stored (i * R.k + j) u).1; rw [flat_set hR hx hj he] at this; rw [List.length_set]; exact this, fun z hz => ?_⟩
  rcases List.mem_or_eq_of_mem_set hz with hz | hz
  · exact h.2 z hz
  · rw [hz]; exact hy
theorem bw_storeG {w : World} {d : Ext} {g i : Nat} {v : Value} (hg : w.heap.size ≤ g) : ∃ d', (Go.Proofs.YtmomoeagnkjbiaaGreat.bw w d).setCell ⟨g, i, none⟩ v = Go.Proofs.YtmomoeagnkjbiaaGreat.bw w d' := by
  refine bw_of ?_
  have h1 := bw_below w d
  refine ⟨h1.1, h1.2, h1.3, ?_, fun k hk => ?_⟩
  · rw [World.size_setCell]; exact h1.size
  · rw [heap_setCell_other _ ⟨g, i, none⟩ k v (by intro e; have : k = g := by simpa using e
                                                  omega)]
    exact h1.block k hk
end Go.Proofs.YtmomoeagnkjbiaaGreat
/- A row of records of the call's own, sorted by the library's SortFunc: what the world holds behind. -/
namespace Go.Proofs.YtmomoeagnkjbiaaGreat
open Go.RowKit Go.Sort
variable {α : Type} {R : RecT α} [Inhabited α]

theorem flatK_eq (hR : RecOk R) (l : List α) : (flatK R.enc R.k l.toArray).toList = l.flatMap R.enc := by
  apply List.ext_getElem?
  intro t
  have hs : (flatK R.enc R.k l.toArray).size = l.length * R.k := by rw [size_flatK]; simp
  by_cases ht : t < l.length * R.k
  · have hq : t / R.k < l.length := Nat.div_lt_of_lt_mul (by rw [Nat.mul_comm]; exact ht)
    have hm : t % R.k < R.k := Nat.mod_lt _ hR.pos
    have e1 : t = t / R.k * R.k + t % R.k := by rw [Nat.mul_comm]; exact (Nat.div_add_mod t R.k).symm
    have h1 : (flatK R.enc R.k l.toArray)[t]! = (R.enc l.toArray[t / R.k]!)[t % R.k]! := get_flatK _ _ _ _ (by simpa using ht)
    have h2 : (l.flatMap R.enc)[t]? = (R.enc l[t / R.k])[t % R.k]? := by
      conv => lhs; rw [e1]
      exact flat_get hR (List.getElem?_eq_getElem hq) hm
    rw [h2, Array.getElem?_toList, Array.getElem?_eq_getElem (by rw [hs]; exact ht)]
    rw [getElem!_pos _ t (by rw [hs]; exact ht)] at h1
    rw [h1]
    have h3 : l.toArray[t / R.k]! = l[t / R.k] := by rw [getElem!_pos _ _ (by simpa using hq)]; simp
    rw [h3, List.getElem?_eq_getElem (by rw [hR.len]; exact hm), getElem!_pos _ _ (by rw [hR.len]; exact hm)]
  · rw [Array.getElem?_toList, Array.getElem?_eq_none (by rw [hs]; omega), List.getElem?_eq_none (by rw [flat_len hR]; omega)]
theorem take_putCellsV (cur : Array Value) (ts : Array Value) (h : ts.size ≤ cur.size) : (putCells id 0 ts cur).toList.take ts.size = ts.toList := by
  apply List.ext_getElem?
  intro j
  by_cases hj : j < ts.size
  · rw [List.getElem?_take_of_lt hj, Array.getElem?_toList]
    simp [putCells, hj, show j < cur.size by omega]
  · rw [List.getElem?_take_eq_none (by omega), List.getElem?_eq_none (by simp; omega)]
theorem holdsK_row (hR : RecOk R) {w : World} {base g cap : Nat} {l : List α} (h : OwG R w base (.slice (some ⟨g, 0, none⟩) l.length cap) l) : HoldsK R.enc R.k w g 0 l.toArray := by
  intro j hj
  have hj' : j < l.length * R.k := by simpa using hj
  have hm : j % R.k < R.k := Nat.mod_lt _ hR.pos
  have hq : j / R.k < l.length := Nat.div_lt_of_lt_mul (by rw [Nat.mul_comm]; exact hj')
  have e1 : j = j / R.k * R.k + j % R.k := by rw [Nat.mul_comm]; exact (Nat.div_add_mod j R.k).symm
  refine ⟨?_, by rw [Nat.zero_add]; exact h.froz j⟩
  have h1 := h.cell hR (i := j / R.k) (j := j % R.k) (u := (R.enc l[j / R.k])[j % R.k]'(by rw [hR.len]; exact hm)) (List.getElem?_eq_getElem hq) (List.getElem?_eq_getElem _)
  rw [← e1] at h1
  rw [Nat.zero_add, h1, get_flatK _ _ _ _ (by simpa using hj')]
  have h3 : l.toArray[j / R.k]! = l[j / R.k] := by rw [getElem!_pos _ _ (by simpa using hq)]; simp
  rw [h3]
  show some _ = some (id _)
  rw [getElem!_pos _ _ (by rw [hR.len]; exact hm)]; rfl
/-- The world behind a sort: the same row holds the other list; nothing else has changed. -/
theorem owG_sorted (hR : RecOk R) {W0 w : World} (hw : Below W0.heap.size W0 w) {g cap n : Nat} {os : Array Obj} {l : List α} {d : Array α} (h : OwG R w W0.heap.size (.slice (some ⟨g, 0, none⟩) l.length cap) l) (hs : d.size = l.length) (hwf : ∀ x ∈ d.toList, R.wf x) :
    ∃ e, sortWorldK R.enc R.k w g 0 n d os = bw W0 e ∧ OwG R (bw W0 e) W0.heap.size (.slice (some ⟨g, 0, none⟩) l.length cap) d.toList := by
  rcases h.1.2 with ⟨h', _⟩ | ⟨g', cap', cur, h', hb, hg, hnc, hcm, hcs, htake⟩
  · cases h'
  · simp only [Value.slice.injEq, Option.some.injEq, Addr.mk.injEq, and_true, true_and] at h'
    obtain ⟨rfl, rfl⟩ := h'
    have hlen : d.toList.length = l.length := by simpa using hs
    have hgr : w.grownBy (sortWorldK R.enc R.k w g 0 n d os) (some g) := by
      refine ⟨rfl, rfl, rfl, by simp [sortWorldK, putRowK], fun k hk hne => ?_⟩
      unfold sortWorldK putRowK
      rw [heap_grow_old _ _ (by simpa using hk)]
      have : g ≠ k := fun e => hne (by rw [e])
      simp [putRow, mapBlock, Sort.ahead, Array.getElem?_modify, this]
    obtain ⟨e, he⟩ := bw_of (w := W0) (w' := sortWorldK R.enc R.k w g 0 n d os) (hw.grown hgr hw.size (fun k hk => by cases hk; exact hb))
    refine ⟨e, he, ?_, hwf⟩
    rw [← he]
    have hgl : g < w.heap.size := (Array.getElem?_eq_some_iff.1 hg).1
    have hf : (flatK R.enc R.k d).toList = d.toList.flatMap R.enc := by
      have := flatK_eq hR d.toList
      rwa [Array.toArray_toList] at this
    have hfs : (flatK R.enc R.k d).size = l.length * R.k := by rw [size_flatK, hs]
    have hh : (sortWorldK R.enc R.k w g 0 n d os).heap[g]? = some (.cells (putCells id 0 (flatK R.enc R.k d) cur) R.E (0, 0)) := by
      unfold sortWorldK putRowK
      rw [heap_grow_old _ _ (by simpa using hgl)]
      simp [putRow, mapBlock, Sort.ahead, Array.getElem?_modify, hg, onCells]
    refine ⟨by rw [flat_len hR], .inr ⟨g, cap, _, by rw [hlen], hb, hh, by rw [hlen]; exact hnc, hcm, by simp [putCells, hcs], ?_⟩⟩
    rw [← hf, hlen, ← hfs]
    exact take_putCellsV cur _ (by rw [hfs, hcs]; exact Nat.mul_le_mul_right _ hnc)
end Go.Proofs.YtmomoeagnkjbiaaGreat

/- Contracts and plain laws, several texts in one: Mk1; Mk2 -/
import Derived.Test.YtlkphcjlgbimkaaGreatProg
import Derived.WalkKit
import Derived.WalkSpells
import Derived.WalkLawsBesides
import Derived.Lib.Hide
import Derived.BigQuiet
import Derived.Test.YtlkphcjlgbimkaaGreatBAA
import Derived.Test.YtlkphcjlgbimkaaGreatBAB
import Derived.Test.YtlkphcjlgbimkaaGreatBAL
import Derived.Test.YtlkphcjlgbimkaaGreatBAP
import Derived.Test.YtlkphcjlgbimkaaGreatBAZ
/- Covers, the program's and the reference's; Pages and Stars. -/
namespace Go.Proofs.YtlkphcjlgbimkaaGreat
open Go.RowKit Go.Shelf

/-- All days of a time have a page. -/
def CovP (lp : List PgV) (a b : Int) : Prop := ∀ n : Int, a / 86400000 ≤ n → n ≤ b / 86400000 → lp.find? (pgIs n) ≠ none
noncomputable def covB (lp : List PgV) (a b : Int) : Bool := timB a b && @decide (CovP lp a b) (Classical.propDecidable _)
theorem covB_no {lp : List PgV} {a b n : Int} (h1 : a / 86400000 ≤ n) (h2 : n ≤ b / 86400000) (h : lp.find? (pgIs n) = none) : false = covB lp a b := by
  have : ¬ CovP lp a b := fun k => k n h1 h2 h
  unfold covB
  simp [this]
theorem covB_time {lp : List PgV} {a b : Int} (h : timB a b = false) : false = covB lp a b := by unfold covB; rw [h]; rfl
theorem covB_yes {lp : List PgV} {a b : Int} (h : timB a b = true) (k : CovP lp a b) : true = covB lp a b := by unfold covB; rw [h]; simp [k]
theorem find_at {lp : List PgV} {n : Int} (h : lp.find? (pgIs n) ≠ none) : ∃ (i : Nat) (p : PgV), lp[i]? = some p ∧ numI p.y p.m p.d = n := by
  rcases idxR_cases (pgIs n) lp with ⟨_, h2⟩ | ⟨i, x, _, h2, _, h4⟩
  · exact absurd h2 h
  · exact ⟨i, x, h2, of_decide_eq_true h4⟩
theorem ord_idx {lp : List PgV} (ho : OrdK lp lp.length) {i j : Nat} {p q : PgV} (hp : lp[i]? = some p) (hq : lp[j]? = some q) (h : numI p.y p.m p.d < numI q.y q.m q.d) : i < j := by
  rcases Nat.lt_trichotomy i j with h1 | h1 | h1
  · exact h1
  · subst h1; rw [hp] at hq; cases hq; omega
  · have := ordK_lt ho j i q p h1 hq hp; omega
theorem cov_few {lp : List PgV} (ho : OrdK lp lp.length) {a : Int} : ∀ k : Nat, (∀ n : Int, a ≤ n → n ≤ a + (k : Int) → lp.find? (pgIs n) ≠ none) → ∃ (i : Nat) (p : PgV), lp[i]? = some p ∧ numI p.y p.m p.d = a + (k : Int) ∧ k ≤ i
  | 0, h => by
    obtain ⟨i, p, h1, h2⟩ := find_at (h a (by omega) (by omega))
    exact ⟨i, p, h1, by rw [h2]; simp, Nat.zero_le _⟩
  | k + 1, h => by
    obtain ⟨i, p, h1, h2, h3⟩ := cov_few ho k (fun n h1 h2 => h n h1 (by omega))
    obtain ⟨j, q, k1, k2⟩ := find_at (h (a + ((k + 1 : Nat) : Int)) (by omega) (by omega))
    have := ord_idx ho h1 k1 (by omega)
    exact ⟨j, q, k1, k2, by omega⟩
theorem cov_far {lp : List PgV} {a b : Int} (ho : OrdK lp lp.length) (hl : lp.length ≤ 40) (h : 40 ≤ b / 86400000 - a / 86400000) : false = covB lp a b := by
  by_cases k : CovP lp a b
  · obtain ⟨i, p, h1, _, h3⟩ := cov_few ho (a := a / 86400000) 40 (fun n h1 h2 => k n h1 (by omega))
    have := (List.getElem?_eq_some_iff.1 h1).1
    omega
  · unfold covB; simp [k]
/-- The days up to one have a page. -/
def CovK (lp : List PgV) (a : Int) (k : Nat) : Prop := ∀ n : Int, a ≤ n → n < a + (k : Int) → lp.find? (pgIs n) ≠ none
theorem covK_step {lp : List PgV} {a : Int} {k : Nat} (h : CovK lp a k) (e : lp.find? (pgIs (a + (k : Int))) ≠ none) : CovK lp a (k + 1) := fun n h1 h2 => by
  by_cases e2 : n = a + (k : Int)
  · subst e2; exact e
  · exact h n h1 (by omega)
set_option maxHeartbeats 2000000 in
set_option maxRecDepth 100000 in
theorem alm_Covers {P : Nat → Prop} (bk : Nat) (vd vp vs : Value) (lp : List PgV) (a b : Int) (w : World) (hB : BkL P w bk vd vp vs lp) :
    Calls Tryz.prog 35 #[.pointer (some ⟨bk, 0, none⟩), (.agg #[.int .i64 (a), .int .i64 (b)])] w fun e w' => e = .returned (.bool (covB lp a b)) ∧ ∃ d, w' = bw w d := by
  have HV := Lib.hid (fun W => clock_Valid a b W)
  have hti := timB_iff (a := a) (b := b)
  cases ht : timB a b
  · rw [ht] at HV
    rw [← covB_time ht]
    clear hti ht hB
    refine lay_start ?_
    go_enter Tryz.func35, Tryz.ntmps35
    go_wp2_with fail
    refine region_bw (by kernel_rfl) (by kernel_rfl) ?_
    repeat (go_big_quiet_step ((first | (go_at_call 60; exact bq (HV.out _) (fun d => ⟨d, rfl⟩)) | (go_at_call 60; exact bq (HV.out _) (fun d => lay_join _ _ _ d)))))
    refine wpQuiet_nil ?_
    rintro w' ⟨d, rfl⟩
    rw [lay_bw]
    go_wp2_with fail
    go_ret
    exact ⟨rfl, lay_ex _ _⟩
  · rw [ht] at HV
    obtain ⟨g1, g2, g3⟩ := hti.1 ht
    have HDa := Lib.hid (fun W => alm_day a W (by omega) (by omega))
    have HDb := Lib.hid (fun W => alm_day b W (by omega) (by omega))
    have HPg := Lib.hid (fun n L => alm_page bk vd vp vs lp n w (lay w L) (lay_extends w L) hB)
    have HFar := Lib.hid (fun h => cov_far (a := a) (b := b) hB.ord hB.few h)
    have HNo := Lib.hid (fun n h1 h2 h => covB_no (lp := lp) (a := a) (b := b) (n := n) h1 h2 h)
    have HYes := Lib.hid (fun k => covB_yes (lp := lp) ht k)
    have hab : a / 86400000 ≤ b / 86400000 := by omega
    have m1 : -1000000 ≤ a / 86400000 := by omega
    have m2 : b / 86400000 ≤ 1000000 := by omega
    unfold CovP at HYes
    generalize covB lp a b = R at *
    clear hti ht hB g1 g2 g3
    generalize a / 86400000 = A at *
    generalize b / 86400000 = B at *
    have q1 : IntKind.i64.wrap (B - A) = B - A := IntWalk.i64_in _ (by omega)
    by_cases hfar : 40 ≤ B - A
    · have HB := Lib.hid (HFar.out hfar)
      have t1 : decide ((40 : Int) ≤ B - A) = true := decide_eq_true hfar
      refine lay_start ?_
      go_enter Tryz.func35, Tryz.ntmps35
      go_wp2_with fail
      refine region_bw (by kernel_rfl) (by kernel_rfl) ?_
      repeat (go_big_quiet_step ((first | (go_at_call 60; exact bq (HV.out _) (fun d => ⟨d, rfl⟩)) | (go_at_call 60; exact bq (HV.out _) (fun d => lay_join _ _ _ d)) | ((with_reducible refine bqs (HDa.out _) ?_); exact ⟨_, rfl⟩) | ((with_reducible refine bqs (HDb.out _) ?_); exact ⟨_, rfl⟩))))
      refine wpQuiet_nil ?_
      rintro w' ⟨d, rfl⟩
      rw [lay_bw]
      go_wp2_with fail
      go_ret
      exact ⟨ret_bool HB.out, lay_ex _ _⟩
    · have t1 : decide ((40 : Int) ≤ B - A) = false := decide_eq_false hfar
      refine lay_start ?_
      go_enter Tryz.func35, Tryz.ntmps35
      go_wp2_with fail
      refine region_bw (by kernel_rfl) (by kernel_rfl) ?_
      repeat (go_big_quiet_step ((first | (go_at_call 60; exact bq (HV.out _) (fun d => ⟨d, rfl⟩)) | (go_at_call 60; exact bq (HV.out _) (fun d => lay_join _ _ _ d)) | ((with_reducible refine bqs (HDa.out _) ?_); exact ⟨_, rfl⟩) | ((with_reducible refine bqs (HDb.out _) ?_); exact ⟨_, rfl⟩))))
      refine wpQuiet_nil ?_
      rintro w' ⟨d, rfl⟩
      rw [lay_bw]
      go_wp2_with (go_at_call 95; first | ((with_reducible refine (HDa.out _).mono ?_); rintro e w' ⟨rfl, hw⟩; subst hw))
      go_loopw [5] (fun v5 wr => ∃ (k : Nat) (d : Ext), A + (k : Int) ≤ B + 1 ∧ v5 = .int .i64 (A + (k : Int)) ∧ wr = lay w [.inr d, .inl (.cells #[.int .i64 a, .int .i64 b] 25 (0, 0))] ∧ CovK lp A k) (fun v5 _ => (B + 1 - intOf v5).toNat)
      case atStart => exact ⟨0, _, by omega, by simp, Classical.choose_spec (lay_fold w [_] _), fun n h1 h2 => by omega⟩
      case round =>
        obtain ⟨k, d, hk, rfl, rfl, hC⟩ := hrel
        have HC := Lib.hid hC
        clear hC
        obtain ⟨N, hN⟩ : ∃ N, A + (k : Int) = N := ⟨_, rfl⟩
        have HN := Lib.hid hN
        rw [hN] at hk ⊢
        have hN1 : A ≤ N := by omega
        clear hN
        by_cases hle : N ≤ B
        · cases hf : lp.find? (pgIs N) with
          | none =>
            have HP := Lib.hid (fun L => HPg.out N L)
            rw [hf] at HP
            unfold PgPost at HP
            have HB := Lib.hid (HNo.out N hN1 hle hf)
            clear hf
            go_wp2_with (first | (go_at_call 95; first | ((with_reducible refine (HDb.out _).mono ?_); rintro e w' ⟨rfl, hw⟩; subst hw)) | (go_at_call 96; refine (HP.out _).mono ?_; rintro e w' ⟨rfl, d2, rfl⟩))
            go_ret
            exact ⟨ret_bool HB.out, lay_ex _ _⟩
          | some p =>
            have HP := Lib.hid (fun L => HPg.out N L)
            rw [hf] at HP
            unfold PgPost at HP
            have HS := Lib.hid (covK_step HC.out (by rw [HN.out, hf]; simp))
            clear hf
            go_wp2_with (go_at_call 95; first | ((with_reducible refine (HDb.out _).mono ?_); rintro e w' ⟨rfl, hw⟩; subst hw))
            refine (HP.out _).mono ?_
            rintro e w' ⟨x, rfl, -, d2, rfl⟩
            go_wp2_with fail
            go_roundw
            case rel => exact ⟨k + 1, _, by have := HN.out; omega, by have := HN.out; congr 1; omega, Classical.choose_spec (lay_fold w [_, _, _] _), HS.out⟩
            case measure => simp [intOf]; omega
        · have HB : Hid (true = R) := Lib.hid (HYes.out (fun n h1 h2 => HC.out n h1 (by have := HN.out; omega)))
          go_wp2_with (go_at_call 95; first | ((with_reducible refine (HDb.out _).mono ?_); rintro e w' ⟨rfl, hw⟩; subst hw))
          go_ret
          exact ⟨ret_bool HB.out, lay_ex _ _⟩
set_option maxHeartbeats 2000000 in
set_option maxRecDepth 100000 in
theorem ref17_Covers {P : Nat → Prop} (vp vs : Value) (lp : List PgV) (a b : Int) (w : World) (hp : PgsD P w vp lp) (hok : ∀ p ∈ lp, PgOk p) (ho : OrdK lp lp.length) (hl : lp.length ≤ 40) :
    Calls Tryz.prog 36 #[.agg #[vp, vs], (.agg #[.int .i64 (a), .int .i64 (b)])] w fun e w' => e = .returned (.bool (covB lp a b)) ∧ ∃ d, w' = bw w d := by
  have HV := Lib.hid (fun W => ref10_Valid a b W)
  have hti := timB_iff (a := a) (b := b)
  cases ht : timB a b
  · rw [ht] at HV
    rw [← covB_time ht]
    clear hti ht hp hok ho hl
    refine lay_start ?_
    go_enter Tryz.func36, Tryz.ntmps36
    go_wp2_with fail
    refine region_bw (by kernel_rfl) (by kernel_rfl) ?_
    repeat (go_big_quiet_step ((first | (go_at_call 17; exact bq (HV.out _) (fun d => ⟨d, rfl⟩)) | (go_at_call 17; exact bq (HV.out _) (fun d => lay_join _ _ _ d)))))
    refine wpQuiet_nil ?_
    rintro w' ⟨d, rfl⟩
    rw [lay_bw]
    go_wp2_with fail
    go_ret
    exact ⟨rfl, lay_ex _ _⟩
  · rw [ht] at HV
    obtain ⟨g1, g2, g3⟩ := hti.1 ht
    have HDa := Lib.hid (fun W => ref17_Day a W (by omega) (by omega))
    have HDb := Lib.hid (fun W => ref17_Day b W (by omega) (by omega))
    have HPg := Lib.hid (fun n L => ref17_at vp vs lp n (lay w L) (hp.lay L) hok)
    have HFar := Lib.hid (fun h => cov_far (a := a) (b := b) ho hl h)
    have HNo := Lib.hid (fun n h1 h2 h => covB_no (lp := lp) (a := a) (b := b) (n := n) h1 h2 h)
    have HYes := Lib.hid (fun k => covB_yes (lp := lp) ht k)
    have hab : a / 86400000 ≤ b / 86400000 := by omega
    have m1 : -1000000 ≤ a / 86400000 := by omega
    have m2 : b / 86400000 ≤ 1000000 := by omega
    unfold CovP at HYes
    unfold IdxPost at HPg
    generalize covB lp a b = R at *
    clear hti ht hp hok ho hl g1 g2 g3
    generalize a / 86400000 = A at *
    generalize b / 86400000 = B at *
    have q1 : IntKind.i64.wrap (B - A) = B - A := IntWalk.i64_in _ (by omega)
    by_cases hfar : 40 < B - A
    · have HB := Lib.hid (HFar.out (by omega))
      have t1 : decide ((40 : Int) < B - A) = true := decide_eq_true hfar
      refine lay_start ?_
      go_enter Tryz.func36, Tryz.ntmps36
      go_wp2_with fail
      refine region_bw (by kernel_rfl) (by kernel_rfl) ?_
      repeat (go_big_quiet_step ((first | (go_at_call 17; exact bq (HV.out _) (fun d => ⟨d, rfl⟩)) | (go_at_call 17; exact bq (HV.out _) (fun d => lay_join _ _ _ d)) | ((with_reducible refine bqs (HDa.out _) ?_); exact ⟨_, rfl⟩) | ((with_reducible refine bqs (HDb.out _) ?_); exact ⟨_, rfl⟩))))
      refine wpQuiet_nil ?_
      rintro w' ⟨d, rfl⟩
      rw [lay_bw]
      go_wp2_with fail
      go_ret
      exact ⟨ret_bool HB.out, lay_ex _ _⟩
    · have t1 : decide ((40 : Int) < B - A) = false := decide_eq_false hfar
      refine lay_start ?_
      go_enter Tryz.func36, Tryz.ntmps36
      go_wp2_with fail
      refine region_bw (by kernel_rfl) (by kernel_rfl) ?_
      repeat (go_big_quiet_step ((first | (go_at_call 17; exact bq (HV.out _) (fun d => ⟨d, rfl⟩)) | (go_at_call 17; exact bq (HV.out _) (fun d => lay_join _ _ _ d)) | ((with_reducible refine bqs (HDa.out _) ?_); exact ⟨_, rfl⟩) | ((with_reducible refine bqs (HDb.out _) ?_); exact ⟨_, rfl⟩))))
      refine wpQuiet_nil ?_
      rintro w' ⟨d, rfl⟩
      rw [lay_bw]
      go_wp2_with (go_at_call 75; first | ((with_reducible refine (HDa.out _).mono ?_); rintro e w' ⟨rfl, hw⟩; subst hw))
      go_loopw [5] (fun v5 wr => ∃ (k : Nat) (d : Ext), A + (k : Int) ≤ B + 1 ∧ v5 = .int .i64 (A + (k : Int)) ∧ wr = lay w [.inr d, .inl (.cells #[.int .i64 a, .int .i64 b] 25 (0, 0)), .inl (.cells #[vp, vs] 32 (0, 0))] ∧ CovK lp A k) (fun v5 _ => (B + 1 - intOf v5).toNat)
      case atStart => exact ⟨0, _, by omega, by simp, Classical.choose_spec (lay_fold w [_] _), fun n h1 h2 => by omega⟩
      case round =>
        obtain ⟨k, d, hk, rfl, rfl, hC⟩ := hrel
        have HC := Lib.hid hC
        clear hC
        obtain ⟨N, hN⟩ : ∃ N, A + (k : Int) = N := ⟨_, rfl⟩
        have HN := Lib.hid hN
        rw [hN] at hk ⊢
        have hN1 : A ≤ N := by omega
        clear hN
        have HP := Lib.hid (fun L => HPg.out N L)
        by_cases hle : N ≤ B
        · rcases idxR_cases (pgIs N) lp with ⟨h1, h2⟩ | ⟨i, p, h1, h2, h3, h4⟩
          · rw [show pgAt lp N = -1 from h1] at HP
            have HB := Lib.hid (HNo.out N hN1 hle h2)
            clear h1 h2
            go_wp2_with (first | (go_at_call 75; first | ((with_reducible refine (HDb.out _).mono ?_); rintro e w' ⟨rfl, hw⟩; subst hw)) | (go_at_call 97; refine (HP.out _).mono ?_; rintro e w' ⟨rfl, d2, rfl⟩))
            go_ret
            exact ⟨ret_bool HB.out, lay_ex _ _⟩
          · rw [show pgAt lp N = (i : Int) from h1] at HP
            have HS := Lib.hid (covK_step HC.out (by rw [HN.out, h3]; simp))
            have n3 : ¬ (i : Int) < 0 := by omega
            clear h1 h2 h3 h4
            go_wp2_with (first | (go_at_call 75; first | ((with_reducible refine (HDb.out _).mono ?_); rintro e w' ⟨rfl, hw⟩; subst hw)) | (go_at_call 97; refine (HP.out _).mono ?_; rintro e w' ⟨rfl, d2, rfl⟩))
            go_roundw
            case rel => exact ⟨k + 1, _, by have := HN.out; omega, by have := HN.out; congr 1; omega, Classical.choose_spec (lay_fold w [_, _] _), HS.out⟩
            case measure => simp [intOf]; omega
        · have HB : Hid (true = R) := Lib.hid (HYes.out (fun n h1 h2 => HC.out n h1 (by have := HN.out; omega)))
          go_wp2_with (go_at_call 75; first | ((with_reducible refine (HDb.out _).mono ?_); rintro e w' ⟨rfl, hw⟩; subst hw))
          go_ret
          exact ⟨ret_bool HB.out, lay_ex _ _⟩
set_option maxHeartbeats 1000000 in
theorem alm_Pages {P : Nat → Prop} (bk : Nat) (vd vp vs : Value) (lp : List PgV) (w : World) (hB : BkL P w bk vd vp vs lp) (hP : ∀ b, P b → b < w.heap.size) :
    Calls Tryz.prog 38 #[.pointer (some ⟨bk, 0, none⟩)] w (CpyPost w lp) := by
  have HCp := Lib.hid (fun L => alm_copied vp lp (lay w L) (hB.pgs.lay L) (fun b hb => Nat.lt_of_lt_of_le (hP b hb) (lay_extends w L).size) (by have := hB.few; omega) (fun p hpm => by have := (hB.ok p hpm).len; omega) (fun p hpm t ht => by
    obtain ⟨i, hi, rfl⟩ := List.getElem_of_mem ht
    have := (hB.ok p hpm).ok i p.ts[i] (List.getElem?_eq_getElem hi)
    have h1 := (trkB_iff.1 this.1).lg
    have h2 := (trkB_iff.1 this.1).ld
    omega))
  obtain ⟨k0, k1, k2, k3⟩ := hB.bk
  clear hB hP
  unfold CpyPost at *
  refine lay_start ?_
  go_enter Tryz.func38, Tryz.ntmps38
  go_wp2_with fail
  refine (HCp.out _).mono ?_
  rintro e w' ⟨A, c, d, rfl, rfl, hA⟩
  have HA := Lib.hid hA
  clear hA
  go_wp2_with fail
  go_ret
  exact ⟨A, c, d, rfl, rfl, HA.out⟩
set_option maxHeartbeats 1000000 in
theorem alm_Stars (bk : Nat) (vd vp vs : Value) (ls : List StarV) (w : World) (hB : Bk w bk vd vp vs) (hv : SlG stR w vs ls) (hl : ls.length ≤ 1000) :
    Calls Tryz.prog 41 #[.pointer (some ⟨bk, 0, none⟩)] w (ClnPost stR w ls) := by
  have HCl := Lib.hid (fun L => cln_Star vs ls (lay w L) (hv.lay L) (by omega))
  obtain ⟨k0, k1, k2, k3⟩ := hB
  clear hv
  unfold ClnPost at *
  refine lay_start ?_
  go_enter Tryz.func41, Tryz.ntmps41
  go_wp2_with fail
  refine (HCl.out _).mono ?_
  rintro e w' ⟨v, d, rfl, rfl, hA⟩
  have HA := Lib.hid hA
  clear hA
  go_wp2_with fail
  go_ret
  exact ⟨v, d, rfl, rfl, HA.out⟩
end Go.Proofs.YtlkphcjlgbimkaaGreat
/- Equal rows of stars, equal lists, equal pages. -/
namespace Go.Proofs.YtlkphcjlgbimkaaGreat
open Go.RowKit Go.Shelf

set_option maxHeartbeats 1000000 in
theorem st_Equal (v1 v2 : Value) (l : List StarV) (w : World) (h1 : SlG stR w v1 l) (h2 : SlG stR w v2 l) :
    Calls Tryz.prog 40 #[v1, v2] w fun e w' => e = .returned (.bool true) ∧ ∃ d, w' = bw w d := by
  by_cases hz : l = []
  · subst hz
    obtain ⟨a, c, rfl⟩ := h1.form
    obtain ⟨a2, c2, rfl⟩ := h2.form
    clear h1 h2
    refine lay_start ?_
    go_enter Tryz.func40, Tryz.ntmps40
    go_wp2_with fail
    refine wp_loop_rounds 1 ?_
    rw [rounds_succ]
    go_wp2
    go_ret
    exact ⟨rfl, lay_ex _ _⟩
  · obtain ⟨b, o, c, rfl, hc, hb, hr⟩ := h1.open (List.length_pos_iff.2 hz)
    obtain ⟨b2, o2, c2, rfl, hc2, hb2, hr2⟩ := h2.open (List.length_pos_iff.2 hz)
    obtain ⟨m, hm⟩ : ∃ m, l.length = m := ⟨_, rfl⟩
    have HM := Lib.hid hm
    have HR := Lib.hid hr
    have HR2 := Lib.hid hr2
    rw [hm] at hc hc2 ⊢
    clear h1 h2 hz hm hr hr2
    refine lay_start ?_
    go_enter Tryz.func40, Tryz.ntmps40
    go_wp2_with fail
    go_loopw [13] (fun i wr => ∃ (k : Nat) (d : Ext), k ≤ m ∧ i = .int .i64 k ∧ wr = lay w [.inr d]) (fun i _ => m - (intOf i).toNat)
    case atStart => exact ⟨0, noExt _, Nat.zero_le _, rfl, (bw_noExt _).symm⟩
    case round =>
      obtain ⟨k, d, hk, rfl, rfl⟩ := hrel
      by_cases hlt : k < m
      · obtain ⟨x, hx⟩ : ∃ x, l[k]? = some x := ⟨_, List.getElem?_eq_getElem (by rw [HM.out]; exact hlt)⟩
        have e0 : w.cell? ⟨b, o + k * 4, none⟩ = some (.string x.s) := HR.out k x hx 0 _ rfl
        have e1 : w.cell? ⟨b, o + k * 4 + 1, none⟩ = some (.int .i64 x.sha) := HR.out k x hx 1 _ rfl
        have e2 : w.cell? ⟨b, o + k * 4 + 2, none⟩ = some (.int .i64 x.dec) := HR.out k x hx 2 _ rfl
        have e3 : w.cell? ⟨b, o + k * 4 + 3, none⟩ = some (.int .i64 x.mag) := HR.out k x hx 3 _ rfl
        have f0 : w.cell? ⟨b2, o2 + k * 4, none⟩ = some (.string x.s) := HR2.out k x hx 0 _ rfl
        have f1 : w.cell? ⟨b2, o2 + k * 4 + 1, none⟩ = some (.int .i64 x.sha) := HR2.out k x hx 1 _ rfl
        have f2 : w.cell? ⟨b2, o2 + k * 4 + 2, none⟩ = some (.int .i64 x.dec) := HR2.out k x hx 2 _ rfl
        have f3 : w.cell? ⟨b2, o2 + k * 4 + 3, none⟩ = some (.int .i64 x.mag) := HR2.out k x hx 3 _ rfl
        have x1 : (k : Int) < (m : Int) := by omega
        have x0 : (0 : Int) ≤ (k : Int) := by omega
        clear hx
        go_wp2_with fail
        refine region_bw (by kernel_rfl) (by kernel_rfl) ?_
        repeat (go_big_quiet_step ((first | fail)))
        refine wpQuiet_nil ?_
        rintro w' ⟨d, rfl⟩
        rw [lay_bw]
        go_wp2_with fail
        go_roundw
        case rel => exact ⟨k + 1, _, by omega, by go_num, Classical.choose_spec (lay_all w _)⟩
        case measure => simp [intOf]; omega
      · obtain rfl : k = m := by omega
        have x1 : ¬ (k : Int) < (k : Int) := by omega
        go_wp2
        go_ret
        exact ⟨rfl, lay_ex _ _⟩
set_option maxHeartbeats 1000000 in
theorem ref13_sameInts (v1 v2 : Value) (l : List Int) (w : World) (h1 : Sl w v1 l) (h2 : Sl w v2 l) :
    Calls Tryz.prog 99 #[v1, v2] w fun e w' => e = .returned (.bool true) ∧ ∃ d, w' = bw w d := by
  obtain ⟨a, c, rfl, hc, _, h3⟩ := h1
  obtain ⟨a2, c2, rfl, hc2, _, h4⟩ := h2
  by_cases hz : l = []
  · subst hz
    clear h3 h4
    refine lay_start ?_
    go_enter Tryz.func99, Tryz.ntmps99
    go_wp2_with fail
    refine wp_loop_rounds 1 ?_
    rw [rounds_succ]
    go_wp2
    go_ret
    exact ⟨rfl, lay_ex _ _⟩
  · obtain ⟨b, o, rfl, hb, hr⟩ := h3 hz
    obtain ⟨b2, o2, rfl, hb2, hr2⟩ := h4 hz
    obtain ⟨m, hm⟩ : ∃ m, l.length = m := ⟨_, rfl⟩
    rw [hm] at hc hc2 hr hr2 ⊢
    have HR := Lib.hid hr
    have HR2 := Lib.hid hr2
    clear h3 h4 hz hm hr hr2
    refine lay_start ?_
    go_enter Tryz.func99, Tryz.ntmps99
    go_wp2_with fail
    go_loopw [5] (fun i wr => ∃ (k : Nat) (d : Ext), k ≤ m ∧ i = .int .i64 k ∧ wr = lay w [.inr d]) (fun i _ => m - (intOf i).toNat)
    case atStart => exact ⟨0, noExt _, Nat.zero_le _, rfl, (bw_noExt _).symm⟩
    case round =>
      obtain ⟨k, d, hk, rfl, rfl⟩ := hrel
      by_cases hlt : k < m
      · have e0 := HR.out k hlt
        have f0 := HR2.out k hlt
        have x1 : (k : Int) < (m : Int) := by omega
        have x0 : (0 : Int) ≤ (k : Int) := by omega
        generalize nth l k = X at *
        go_wp2_with fail
        refine region_bw (by kernel_rfl) (by kernel_rfl) ?_
        repeat (go_big_quiet_step ((first | fail)))
        refine wpQuiet_nil ?_
        rintro w' ⟨d, rfl⟩
        rw [lay_bw]
        go_wp2_with fail
        go_roundw
        case rel => exact ⟨k + 1, _, by omega, by go_num, Classical.choose_spec (lay_all w _)⟩
        case measure => simp [intOf]; omega
      · obtain rfl : k = m := by omega
        have x1 : ¬ (k : Int) < (k : Int) := by omega
        go_wp2
        go_ret
        exact ⟨rfl, lay_ex _ _⟩
set_option maxHeartbeats 4000000 in
set_option maxRecDepth 100000 in
theorem ref13_Same {P Q : Nat → Prop} (x y : PgW) (p : PgV) (w : World) (h : PgD P w x p) (k : PgD Q w y p) :
    Calls Tryz.prog 39 #[.agg #[.int .i64 x.y, .int .i64 x.m, .int .i64 x.d, .slice x.ta x.tn x.tc], .agg #[.int .i64 y.y, .int .i64 y.m, .int .i64 y.d, .slice y.ta y.tn y.tc]] w fun e w' => e = .returned (.bool true) ∧ ∃ d, w' = bw w d := by
  have HT := Lib.hid h.ts
  have KT := Lib.hid k.ts
  have HTn := Lib.hid (tksD_len h.ts)
  have KTn := Lib.hid (tksD_len k.ts)
  have e1 := k.y.trans h.y.symm
  have e2 := k.m.trans h.m.symm
  have e3 := k.d.trans h.d.symm
  have e4 : y.tn = x.tn := KTn.out.trans HTn.out.symm
  obtain ⟨xy, xm, xd, xa, n, xc⟩ := x
  obtain ⟨yy, ym, yd, ya, yn, yc⟩ := y
  dsimp only at *
  subst e1 e2 e3 e4
  clear h k
  by_cases hz : yn = 0
  · subst hz
    refine lay_start ?_
    go_enter Tryz.func39, Tryz.ntmps39
    go_wp2_with fail
    refine wp_loop_rounds 1 ?_
    rw [rounds_succ]
    go_wp2
    go_ret
    exact ⟨rfl, lay_ex _ _⟩
  · obtain ⟨b, o, c, hv1, hcc1, hb1, -, hr1⟩ := HT.out.open (by rw [← HTn.out]; omega)
    obtain ⟨b2, o2, c2, hv2, hcc2, hb2, -, hr2⟩ := KT.out.open (by rw [← KTn.out]; omega)
    rw [← HTn.out] at hv1 hcc1
    rw [← KTn.out] at hv2 hcc2
    cases hv1
    cases hv2
    have HR1 := Lib.hid hr1
    have HR2 := Lib.hid hr2
    clear hr1 hr2
    refine lay_start ?_
    go_enter Tryz.func39, Tryz.ntmps39
    go_wp2_with fail
    go_loopw [5] (fun i wr => ∃ (k : Nat) (d : Ext), k ≤ yn ∧ i = .int .i64 k ∧ wr = lay w [.inr d, .inl (.cells #[.int .i64 yy, .int .i64 ym, .int .i64 yd, .slice (some ⟨b2, o2, none⟩) yn yc] 53 (0, 0)), .inl (.cells #[.int .i64 yy, .int .i64 ym, .int .i64 yd, .slice (some ⟨b, o, none⟩) yn xc] 53 (0, 0))]) (fun i _ => yn - (intOf i).toNat)
    case atStart => exact ⟨0, noExt _, Nat.zero_le _, rfl, (bw_noExt _).symm⟩
    case round =>
      obtain ⟨k, d, hk, rfl, rfl⟩ := hrel
      by_cases hlt : k < yn
      · obtain ⟨t, ht⟩ : ∃ t, p.ts[k]? = some t := ⟨_, List.getElem?_eq_getElem (by rw [← HTn.out]; exact hlt)⟩
        obtain ⟨u, hu1, hu2, u0, u1, u2, u3, u4, u5⟩ := HR1.out k t ht
        obtain ⟨v, hv1, hv2, v0, v1, v2, v3, v4, v5⟩ := HR2.out k t ht
        have HG := Lib.hid (fun L => ref13_sameInts _ _ t.g (lay w L) (hu2.g.1.lay L) (hv2.g.1.lay L))
        have HD := Lib.hid (fun L => ref13_sameInts _ _ t.d (lay w L) (hu2.d.1.lay L) (hv2.d.1.lay L))
        have s1 := hv2.s.trans hu2.s.symm
        have s2 := hv2.p.trans hu2.p.symm
        have s3 := hv2.q.trans hu2.q.symm
        have s4 := hv2.r.trans hu2.r.symm
        obtain ⟨us, ua, un, uc, uda, udn, udc, up, uq, ur⟩ := u
        obtain ⟨vs, va, vn, vc, vda, vdn, vdc, vp, vq, vr⟩ := v
        dsimp only at *
        subst s1 s2 s3 s4
        clear hu1 hu2 hv1 hv2 ht
        have x1 : (k : Int) < (yn : Int) := by omega
        have x0 : (0 : Int) ≤ (k : Int) := by omega
        go_wp2_with fail
        refine region_mixW [0, 0, 0, 0, 0, 0, 0, 0, 0, 0, 2, 1, 1] (by kernel_rfl) (by kernel_rfl) (by kernel_rfl) ?_
        repeat (refine wpM_quiet (fun K hK => ?_); go_simp; first | (refine hK _ ?_; clear hK K) | (apply Exists.intro; refine ⟨fun _ => ?_, hK _ ?_⟩; (first | fail); clear hK K))
        refine wpM_two (fun J hJ d => ?_) (fun J hJ d => ?_)
        all_goals (go_simp; refine hJ _ _ (by first | exact lay_in w [_] _ | exact lay_in w [_, _] _ | exact lay_in w [_, _, _] _ | exact lay_in w [_, _, _, _] _ | exact lay_in w [_, _, _, _, _] _ | exact lay_in w [_, _, _, _, _, _] _) (fun K hK d => ?_); go_simp; refine hK _ _ (by first | exact lay_in w [_] _ | exact lay_in w [_, _] _ | exact lay_in w [_, _, _] _ | exact lay_in w [_, _, _, _] _ | exact lay_in w [_, _, _, _, _] _ | exact lay_in w [_, _, _, _, _, _] _) ?_; clear hK K hJ J)
        all_goals (repeat (first | (refine wpM_quiet (fun K hK => ?_); go_simp; first | (refine hK _ ?_; clear hK K) | (apply Exists.intro; refine ⟨fun _ => ?_, hK _ ?_⟩; (first | fail); clear hK K)) | (refine wpM_special (fun K hK d => ?_); go_simp; refine hK _ _ (by first | exact lay_in w [_] _ | exact lay_in w [_, _] _ | exact lay_in w [_, _, _] _ | exact lay_in w [_, _, _, _] _ | exact lay_in w [_, _, _, _, _] _ | exact lay_in w [_, _, _, _, _, _] _) ?_; clear hK K)))
        all_goals (refine wpM_nil ?_; intro d; rw [lay_bw])
        all_goals
          go_wp2_with (go_at_call 99; first | ((with_reducible refine (HG.out _).mono ?_); rintro e w' ⟨rfl, d2, rfl⟩) | ((with_reducible refine (HD.out _).mono ?_); rintro e w' ⟨rfl, d3, rfl⟩))
          go_roundw
          case rel => exact ⟨k + 1, _, by omega, by go_num, Classical.choose_spec (lay_fold w [_, _, _, _, _, _, _, _, _, _] _)⟩
          case measure => simp [intOf]; omega
      · obtain rfl : k = yn := by omega
        have x1 : ¬ (k : Int) < (k : Int) := by omega
        go_wp2
        go_ret
        exact ⟨rfl, lay_ex _ _⟩
set_option maxHeartbeats 1000000 in
set_option maxRecDepth 100000 in
theorem pgs_EqualFunc {P Q : Nat → Prop} (v1 v2 : Value) (l : List PgV) (w : World) (h1 : PgsD P w v1 l) (h2 : PgsD Q w v2 l) :
    Calls Tryz.prog 37 #[v1, v2, .func (.func 39) #[] #[]] w fun e w' => e = .returned (.bool true) ∧ ∃ d, w' = bw w d := by
  by_cases hz : l = []
  · subst hz
    obtain ⟨a, c, rfl⟩ := pgs_form h1
    obtain ⟨a2, c2, rfl⟩ := pgs_form h2
    clear h1 h2
    refine lay_start ?_
    go_enter Tryz.func37, Tryz.ntmps37
    go_wp2_with fail
    refine wp_loop_rounds 1 ?_
    rw [rounds_succ]
    go_wp2
    go_ret
    exact ⟨rfl, lay_ex _ _⟩
  · obtain ⟨b, o, c, rfl, hc, hb, -, hr⟩ := h1.open (List.length_pos_iff.2 hz)
    obtain ⟨b2, o2, c2, rfl, hc2, hb2, -, hr2⟩ := h2.open (List.length_pos_iff.2 hz)
    obtain ⟨m, hm⟩ : ∃ m, l.length = m := ⟨_, rfl⟩
    have HM := Lib.hid hm
    have HR := Lib.hid hr
    have HR2 := Lib.hid hr2
    rw [hm] at hc hc2 ⊢
    have eI : ∀ args w, (callFunc 39 args).run Tryz.prog w = .ok (.enter 39 args) w := enters_of Tryz.func39 (by kernel_rfl) rfl
    clear h1 h2 hz hm hr hr2
    refine lay_start ?_
    go_enter Tryz.func37, Tryz.ntmps37
    go_wp2_with fail
    go_loopw [17] (fun i wr => ∃ (k : Nat) (d : Ext), k ≤ m ∧ i = .int .i64 k ∧ wr = lay w [.inr d]) (fun i _ => m - (intOf i).toNat)
    case atStart => exact ⟨0, noExt _, Nat.zero_le _, rfl, (bw_noExt _).symm⟩
    case round =>
      obtain ⟨k, d, hk, rfl, rfl⟩ := hrel
      by_cases hlt : k < m
      · obtain ⟨p, hp⟩ : ∃ p, l[k]? = some p := ⟨_, List.getElem?_eq_getElem (by rw [HM.out]; exact hlt)⟩
        obtain ⟨x, hx, hD, e0, e1, e2, e3⟩ := HR.out k p hp
        obtain ⟨y, hy, hE, f0, f1, f2, f3⟩ := HR2.out k p hp
        have HS := Lib.hid (fun L => ref13_Same x y p (lay w L) ⟨hD.y, hD.m, hD.d, hD.ts.lay L⟩ ⟨hE.y, hE.m, hE.d, hE.ts.lay L⟩)
        obtain ⟨xy, xm, xd, xa, xn, xc⟩ := x
        obtain ⟨yy, ym, yd, ya, yn, yc⟩ := y
        dsimp only at *
        have x1 : (k : Int) < (m : Int) := by omega
        have x0 : (0 : Int) ≤ (k : Int) := by omega
        clear hp hx hD hy hE
        go_wp2_with (refine (HS.out _).mono ?_; rintro e w' ⟨rfl, d2, rfl⟩)
        go_roundw
        case rel => exact ⟨k + 1, _, by omega, by go_num, Classical.choose_spec (lay_all w _)⟩
        case measure => simp [intOf]; omega
      · obtain rfl : k = m := by omega
        have x1 : ¬ (k : Int) < (k : Int) := by omega
        go_wp2
        go_ret
        exact ⟨rfl, lay_ex _ _⟩
end Go.Proofs.YtlkphcjlgbimkaaGreat

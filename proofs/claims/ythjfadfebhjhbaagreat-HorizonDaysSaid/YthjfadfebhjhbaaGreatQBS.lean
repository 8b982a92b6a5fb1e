/- Contracts and plain laws, several texts in one: HzK; HzL -/
import Derived.Test.YthjfadfebhjhbaaGreatProg
import Derived.WalkKit
import Derived.WalkSpells
import Derived.WalkLawsBesides
import Derived.Lib.Hide
import Derived.BigQuiet
import Derived.Test.YthjfadfebhjhbaaGreatQAA
import Derived.Test.YthjfadfebhjhbaaGreatQAB
import Derived.Test.YthjfadfebhjhbaaGreatQAJ
import Derived.Test.YthjfadfebhjhbaaGreatQBP
/- The reference's side, last, first. -/
namespace Go.Proofs.YthjfadfebhjhbaaGreat
open Go.RowKit Go.Shelf

set_option maxHeartbeats 4000000 in
set_option maxRecDepth 100000 in
theorem r50_side {P : Nat → Prop} (vp vs : Value) (lp : List PgV) (ls : List StarV) (s : ByteArray) (u x n t : Int) (w : World) (h : RfL P w vp vs lp ls) (k : NewOk lp ls) (hu : latB u u = true) :
    Calls Tryz.prog 51 #[.agg #[vp, vs], .string s, (.agg #[.int .i64 (u), .int .i64 (x)]), .int .i64 n, .int .i64 t] w fun e w' => e = .returned (.tuple #[.int .i64 (siS lp ls s u x n t), .int .i64 (siE lp ls s x t)]) ∧ ∃ d, w' = bw w d := by
  have HA := Lib.hid (fun L' => r50_Altitude vp vs lp ls s t t u u x x (lay w L') (h.lay L') k hu)
  have HP := Lib.hid (fun W => r50_Point u x W)
  have HS := Lib.hid (fun W => r50_Side (hzL lp ls s t t u u x x) (hzH lp ls s t t u u x x) n W)
  clear h k hu
  unfold siE siS
  generalize hzL lp ls s t t u u x x = p at *
  generalize hzH lp ls s t t u u x x = q at *
  generalize lhaE lp ls s t t x x = E at *
  generalize sdI p q n = D at *
  refine lay_start ?_
  go_enter Tryz.func51, Tryz.ntmps51
  go_wp2_with fail
  refine region_mixW [0, 0, 0, 0, 0, 0, 0, 0, 0, 0, 0, 1, 1, 0] (by kernel_rfl) (by kernel_rfl) (by kernel_rfl) ?_
  repeat (first | (refine wpM_quiet (fun K hK => ?_); go_simp; first | (refine hK _ ?_; clear hK K) | (apply Exists.intro; refine ⟨fun _ => ?_, hK _ ?_⟩; (first | (go_at_call 18; exact bq (HP.out _) (fun d => ⟨d, rfl⟩)) | (go_at_call 14; exact bq (HA.out _) (fun d => ⟨d, rfl⟩))); clear hK K)) | (refine wpM_special (fun K hK d => ?_); go_simp; refine hK _ _ (by first | exact lay_in w [_] _ | exact lay_in w [_, _] _ | exact lay_in w [_, _, _] _ | exact lay_in w [_, _, _, _] _ | exact lay_in w [_, _, _, _, _] _ | exact lay_in w [_, _, _, _, _, _] _) ?_; clear hK K))
  refine wpM_nil ?_
  intro d
  rw [lay_bw]
  go_wp2_with (go_at_call 15; refine (HS.out _).mono ?_; rintro e w' ⟨rfl, d4, rfl⟩; rw [lay_bw])
  exact bodyPost_ret (v := .tuple #[.int .i64 D, .int .i64 E]) (by simp [results, Tryz.results51, go_sem]) rfl ⟨rfl, lay_ex _ _⟩
def RSide (S E : Int → Int) (vp vs : Value) (s : ByteArray) (u x n : Int) (w : World) : Prop :=
  ∀ t L, Calls Tryz.prog 51 #[.agg #[vp, vs], .string s, (.agg #[.int .i64 (u), .int .i64 (x)]), .int .i64 n, .int .i64 t] (lay w L) fun e w' => e = .returned (.tuple #[.int .i64 (S t), .int .i64 (E t)]) ∧ ∃ d, w' = bw (lay w L) d
theorem RSide.on {S E : Int → Int} {vp vs : Value} {s : ByteArray} {u x n : Int} {w : World} (h : RSide S E vp vs s u x n w) (L1 : List (Obj ⊕ Ext)) : RSide S E vp vs s u x n (lay w L1) := by
  intro t L
  rw [← lay_appG]
  exact h t (L ++ L1)
set_option maxHeartbeats 4000000 in
set_option maxRecDepth 100000 in
theorem r50_last (S E : Int → Int) (vp vs : Value) (s : ByteArray) (u x n a b q : Int) (w : World) (HS0 : RSide S E vp vs s u x n w) (hab : a < b) (a0 : -70368744177664 ≤ a) (b0 : b ≤ 70368744177664) :
    Calls Tryz.prog 52 #[.agg #[vp, vs], .string s, (.agg #[.int .i64 (u), .int .i64 (x)]), .int .i64 n, .int .i64 a, .int .i64 b, .int .i64 q] w fun e w' => e = .returned (.int .i64 (lstR S q a b)) ∧ ∃ d, w' = bw w d := by
  have HS := Lib.hid HS0
  clear HS0
  refine lay_start ?_
  go_enter Tryz.func52, Tryz.ntmps52
  go_wp2_with fail
  go_loopw [4, 5] (fun v4 v5 wr => ∃ (lo hi : Int) (dd : Ext), a ≤ lo ∧ lo < hi ∧ hi ≤ b ∧ v4 = .int .i64 lo ∧ v5 = .int .i64 hi ∧ wr = lay w (.inr dd :: [.inl (Obj.cells #[.int .i64 u, .int .i64 x] 30), .inl (Obj.cells #[vp, vs] 38)]) ∧ lstR S q lo hi = lstR S q a b) (fun v4 v5 _ => (intOf v5 - intOf v4).toNat)
  case atStart => exact ⟨a, b, noExt _, Int.le_refl _, hab, Int.le_refl _, rfl, rfl, (bw_noExt _).symm, rfl⟩
  case round =>
    obtain ⟨lo, hi, dd, g0, g1, g2, rfl, rfl, rfl, hR⟩ := hrel
    have k1 : IntKind.i64.wrap (hi - lo) = hi - lo := IntWalk.i64_in _ (by omega)
    by_cases c : 1 < hi - lo
    · obtain ⟨m, hm⟩ : ∃ m, (lo + hi) / 2 = m := ⟨_, rfl⟩
      have hm1 : lo < m ∧ m < hi := by omega
      have k2 : IntKind.i64.wrap (lo + hi) = lo + hi := IntWalk.i64_in _ (by omega)
      have HF := Lib.hid (fun W => ref05_Floor (lo + hi) 2 W (by decide) (by omega) (by omega))
      rw [hm] at HF
      have HSm := Lib.hid (HS.out m)
      by_cases d : S m = q
      · rw [lst_yes c (by rw [hm]; exact d), hm] at hR
        rw [d] at HSm
        go_wp2_with (first | (go_at_call 58; refine (HF.out _).mono ?_; rintro e w' ⟨rfl, rfl⟩) | (go_at_call 51; refine (HSm.out _).mono ?_; rintro e w' ⟨rfl, d3, rfl⟩; rw [lay_bw]))
        go_roundw
        case rel => exact ⟨m, hi, _, by omega, by omega, by omega, rfl, rfl, (by first | exact (lay_fold w [_, _, _] _).choose_spec | exact (lay_fold w [_, _] _).choose_spec), hR⟩
        case measure => simp [intOf]; omega
      · rw [lst_no c (by rw [hm]; exact d), hm] at hR
        have e1 : (S m == q) = false := beq_eq_false_iff_ne.2 d
        generalize S m = D at *
        go_wp2_with (first | (go_at_call 58; refine (HF.out _).mono ?_; rintro e w' ⟨rfl, rfl⟩) | (go_at_call 51; refine (HSm.out _).mono ?_; rintro e w' ⟨rfl, d3, rfl⟩; rw [lay_bw]))
        go_roundw
        case rel => exact ⟨lo, m, _, by omega, by omega, by omega, rfl, rfl, (by first | exact (lay_fold w [_, _, _] _).choose_spec | exact (lay_fold w [_, _] _).choose_spec), hR⟩
        case measure => simp [intOf]; omega
    · rw [lst_end c] at hR
      go_wp2_with fail
      go_ret
      exact ⟨by first | rfl | rw [hR], lay_ex _ _⟩
set_option maxHeartbeats 4000000 in
set_option maxRecDepth 100000 in
theorem r50_first (S E : Int → Int) (vp vs : Value) (s : ByteArray) (u x n a b q : Int) (w : World) (HS0 : RSide S E vp vs s u x n w) (hab : a < b) (a0 : -70368744177664 ≤ a) (b0 : b ≤ 70368744177664) :
    Calls Tryz.prog 53 #[.agg #[vp, vs], .string s, (.agg #[.int .i64 (u), .int .i64 (x)]), .int .i64 n, .int .i64 a, .int .i64 b, .int .i64 q] w fun e w' => e = .returned (.int .i64 (fstR S q a b)) ∧ ∃ d, w' = bw w d := by
  have HS := Lib.hid HS0
  clear HS0
  refine lay_start ?_
  go_enter Tryz.func53, Tryz.ntmps53
  go_wp2_with fail
  go_loopw [4, 5] (fun v4 v5 wr => ∃ (lo hi : Int) (dd : Ext), a ≤ lo ∧ lo < hi ∧ hi ≤ b ∧ v4 = .int .i64 lo ∧ v5 = .int .i64 hi ∧ wr = lay w (.inr dd :: [.inl (Obj.cells #[.int .i64 u, .int .i64 x] 30), .inl (Obj.cells #[vp, vs] 38)]) ∧ fstR S q lo hi = fstR S q a b) (fun v4 v5 _ => (intOf v5 - intOf v4).toNat)
  case atStart => exact ⟨a, b, noExt _, Int.le_refl _, hab, Int.le_refl _, rfl, rfl, (bw_noExt _).symm, rfl⟩
  case round =>
    obtain ⟨lo, hi, dd, g0, g1, g2, rfl, rfl, rfl, hR⟩ := hrel
    have k1 : IntKind.i64.wrap (hi - lo) = hi - lo := IntWalk.i64_in _ (by omega)
    by_cases c : 1 < hi - lo
    · obtain ⟨m, hm⟩ : ∃ m, (lo + hi) / 2 = m := ⟨_, rfl⟩
      have hm1 : lo < m ∧ m < hi := by omega
      have k2 : IntKind.i64.wrap (lo + hi) = lo + hi := IntWalk.i64_in _ (by omega)
      have HF := Lib.hid (fun W => ref05_Floor (lo + hi) 2 W (by decide) (by omega) (by omega))
      rw [hm] at HF
      have HSm := Lib.hid (HS.out m)
      by_cases d : S m = q
      · rw [fst_yes c (by rw [hm]; exact d), hm] at hR
        rw [d] at HSm
        go_wp2_with (first | (go_at_call 58; refine (HF.out _).mono ?_; rintro e w' ⟨rfl, rfl⟩) | (go_at_call 51; refine (HSm.out _).mono ?_; rintro e w' ⟨rfl, d3, rfl⟩; rw [lay_bw]))
        go_roundw
        case rel => exact ⟨lo, m, _, by omega, by omega, by omega, rfl, rfl, (by first | exact (lay_fold w [_, _, _] _).choose_spec | exact (lay_fold w [_, _] _).choose_spec), hR⟩
        case measure => simp [intOf]; omega
      · rw [fst_no c (by rw [hm]; exact d), hm] at hR
        have e1 : (S m == q) = false := beq_eq_false_iff_ne.2 d
        generalize S m = D at *
        go_wp2_with (first | (go_at_call 58; refine (HF.out _).mono ?_; rintro e w' ⟨rfl, rfl⟩) | (go_at_call 51; refine (HSm.out _).mono ?_; rintro e w' ⟨rfl, d3, rfl⟩; rw [lay_bw]))
        go_roundw
        case rel => exact ⟨m, hi, _, by omega, by omega, by omega, rfl, rfl, (by first | exact (lay_fold w [_, _, _] _).choose_spec | exact (lay_fold w [_, _] _).choose_spec), hR⟩
        case measure => simp [intOf]; omega
    · rw [fst_end c] at hR
      go_wp2_with fail
      go_ret
      exact ⟨by first | rfl | rw [hR], lay_ex _ _⟩
end Go.Proofs.YthjfadfebhjhbaaGreat
/- The reference's crossings. -/
namespace Go.Proofs.YthjfadfebhjhbaaGreat
open Go.RowKit Go.Shelf

def rcR : RecT CrV := { E := 63, S := 58, k := 3, bytes := 24, enc := fun c => [.int .i64 c.lo, .int .i64 c.hi, .bool c.up], wf := fun c => (Lit.int .i64 c.lo).wf = true ∧ (Lit.int .i64 c.hi).wf = true }
theorem info_rc : (Tryz.prog.info? 63).map (fun i => (i.zero.map (fun z => z.cells.size), i.size, i.bytes)) = some (some 3, 3, 24) := by kernel_rfl
theorem rcOk : RecOk rcR where
  len _ := rfl
  one x u hu := by
    simp only [rcR, List.mem_cons, List.not_mem_nil, or_false] at hu
    rcases hu with rfl | rfl | rfl <;> rfl
  pos := by decide
  und := Tryz.underlying58
  info := recInfo info_rc
  small := by decide
theorem smp_next {q t : Int} (h : q < t) : smp q t = q :: smp (mn (q + 1200000) t) t := by
  rw [smp_lt h]
  congr 1
  rw [mn_eq]
  by_cases c : q + 1200000 ≤ t
  · rw [show min (q + 1200000) t = q + 1200000 by omega]
  · rw [show min (q + 1200000) t = t by omega, smp_end (by omega), smp_end (by omega)]
def CrRPost (S E : Int → Int) (f t : Int) (w : World) (e : Ending) (w' : World) : Prop :=
  (∃ d, w' = bw w d) ∧ ((erF E (smp f t) ≠ 0 ∧ e = .returned (.tuple #[.slice none 0 0, .int .i64 (erF E (smp f t))])) ∨ (erF E (smp f t) = 0 ∧ ∃ v, e = .returned (.tuple #[v, .int .i64 0]) ∧ SlG rcR w' v (crF S (smp f t) 0 0)))
set_option maxHeartbeats 8000000 in
set_option maxRecDepth 100000 in
theorem r50_Crossings (S E : Int → Int) (vp vs : Value) (s : ByteArray) (u x n f t : Int) (w : World) (HS0 : RSide S E vp vs s u x n w) (hft : f ≤ t) (h2d : t - f ≤ 172800000) (f0 : -70368744177664 ≤ f) (t0 : t ≤ 70368744177664) (hS3 : ∀ m, S m = -1 ∨ S m = 0 ∨ S m = 1) :
    Calls Tryz.prog 21 #[.agg #[vp, vs], .string s, (.agg #[.int .i64 (u), .int .i64 (x)]), .int .i64 n, .int .i64 f, .int .i64 t] w (CrRPost S E f t w) := by
  have HS := Lib.hid HS0
  have hlen := smp_len (f := f) (t := t) 144 (by omega)
  have hcl := crF_len S (smp f t) 0 0
  have HS3 := Lib.hid hS3
  clear HS0 hS3
  refine lay_start ?_
  go_enter Tryz.func21, Tryz.ntmps21
  go_wp2_with fail
  go_loopw [17, 14, 15, 16] (fun v17 v14 v15 v16 wr => ∃ (q : Int) (lo : List CrV) (a k : Int) (dd : Ext), f ≤ q ∧ q ≤ t ∧ v17 = .int .i64 q ∧ v15 = .int .i64 a ∧ v16 = .int .i64 k ∧ wr = lay w (.inr dd :: [.inl (Obj.cells #[.int .i64 u, .int .i64 x] 30), .inl (Obj.cells #[vp, vs] 38)]) ∧ OwG rcR (lay w (.inr dd :: [.inl (Obj.cells #[.int .i64 u, .int .i64 x] 30), .inl (Obj.cells #[vp, vs] 38)])) (lay w [.inl (Obj.cells #[.int .i64 u, .int .i64 x] 30), .inl (Obj.cells #[vp, vs] 38)]).heap.size v14 lo ∧ lo ++ crF S (smp q t) a k = crF S (smp f t) 0 0 ∧ erF E (smp q t) = erF E (smp f t) ∧ (k ≠ 0 → f ≤ a ∧ a < q ∧ S a = k)) (fun v17 _ _ _ _ => (t - intOf v17).toNat)
  case atStart => exact ⟨f, [], 0, 0, noExt _, Int.le_refl _, hft, rfl, rfl, rfl, (bw_noExt _).symm, OwG.nil _ _ _, rfl, rfl, fun h => absurd rfl h⟩
  case round =>
    obtain ⟨q, lo, a, k, dd, q0, q1, rfl, rfl, rfl, rfl, hO, hC, hEr, hka⟩ := hrel
    have HO := Lib.hid hO
    obtain ⟨oa, oc, rfl⟩ := hO.form
    clear hO
    have hlo : lo.length ≤ 145 := by rw [← hC, List.length_append] at hcl; omega
    obtain ⟨D, hD⟩ : ∃ D, S q = D := ⟨_, rfl⟩
    have HSm := Lib.hid (HS.out q)
    rw [hD] at HSm
    have hcons : smp q t = q :: (if q < t then smp (mn (q + 1200000) t) t else []) := by
      by_cases c : q < t
      · rw [if_pos c]; exact smp_next c
      · rw [if_neg c, smp_end c, show q = t by omega]
    obtain ⟨R, hR⟩ : ∃ R, (if q < t then smp (mn (q + 1200000) t) t else []) = R := ⟨_, rfl⟩
    rw [hR] at hcons
    rw [hcons] at hC hEr
    by_cases hEq : E q = 0
    · have hEr2 : erF E R = erF E (smp f t) := by rw [← hEr]; show _ = (if E q = 0 then erF E R else E q); rw [if_pos hEq]
      rw [hEq] at HSm
      have k1 : IntKind.i64.wrap (q + 1200000) = q + 1200000 := IntWalk.i64_in _ (by omega)
      have hD3 : D = -1 ∨ D = 0 ∨ D = 1 := by rw [← hD]; exact HS3.out q
      clear hEr hcons
      go_wp2_with fail
      refine (HSm.out [_, _, _]).mono ?_
      rintro e w' ⟨rfl, d3, rfl⟩
      obtain ⟨d4, e4⟩ : ∃ y, bw (lay w (.inr dd :: [.inl (Obj.cells #[.int .i64 u, .int .i64 x] 30), .inl (Obj.cells #[vp, vs] 38)])) d3 = lay w (.inr y :: [.inl (Obj.cells #[.int .i64 u, .int .i64 x] 30), .inl (Obj.cells #[vp, vs] 38)]) := ⟨_, bw_bw _ _ _⟩
      have HO3 : Hid (OwG rcR (lay w (.inr d4 :: [.inl (Obj.cells #[.int .i64 u, .int .i64 x] 30), .inl (Obj.cells #[vp, vs] 38)])) (lay w [.inl (Obj.cells #[.int .i64 u, .int .i64 x] 30), .inl (Obj.cells #[vp, vs] 38)]).heap.size (.slice oa lo.length oc) lo) := Lib.hid (by rw [← e4]; exact owG_on (A := [.inr d3]) HO.out)
      rw [e4]
      clear e4 HSm
      by_cases hD0 : D = 0
      · rw [cr_zero (hD.trans hD0)] at hC
        subst hD0
        clear hD hD3
        by_cases hqt : q = t
        · have hRn : R = [] := by rw [← hR, if_neg (by omega)]
          rw [hRn] at hEr2 hC
          have he0 : erF E (smp f t) = 0 := hEr2.symm
          have HL : Hid (lo = crF S (smp f t) 0 0) := Lib.hid (by have h := hC; simp only [crF, List.append_nil] at h; exact h)
          have t1 : (q == t) = true := by simpa using hqt
          clear hEr2 hR hRn hka hC hqt
          go_wp2_with fail
          exact bodyPost_ret (v := .tuple #[.slice oa lo.length oc, .int .i64 0]) (by simp [results, Tryz.results21, go_sem]) rfl ⟨lay_ex w _, .inr ⟨he0, _, rfl, by rw [← HL.out]; exact (HO3.out).sl rcOk⟩⟩
        · have t1 : (q == t) = false := beq_eq_false_iff_ne.2 hqt
          rw [if_pos (by omega)] at hR
          obtain ⟨T, hT⟩ : ∃ T, mn (q + 1200000) t = T := ⟨_, rfl⟩
          have hTb : q < T ∧ T ≤ t := by rw [← hT, mn_eq]; omega
          rw [hT] at hR
          rw [← hR] at hEr2 hC
          have HER := Lib.hid hEr2
          have HC := Lib.hid hC
          have HKA : Hid (k ≠ 0 → f ≤ a ∧ a < T ∧ S a = k) := Lib.hid (fun h => ⟨(hka h).1, by have := (hka h).2.1; omega, (hka h).2.2⟩)
          clear hEr2 hC hR hka hqt
          go_wp2_with fail
          go_roundw
          case rel => exact ⟨T, lo, a, k, d4, by omega, hTb.2, rfl, rfl, rfl, rfl, HO3.out, HC.out, HER.out, HKA.out⟩
          case measure => simp [intOf]; omega
      · have e1 : (D == 0) = false := beq_eq_false_iff_ne.2 hD0
        have e2 : (D != 0) = true := by simpa using hD0
        by_cases hk0 : k = 0
        · rw [cr_same (by rw [hD]; exact hD0) (.inl hk0), hD] at hC
          subst hk0
          by_cases hqt : q = t
          · have hRn : R = [] := by rw [← hR, if_neg (by omega)]
            rw [hRn] at hEr2 hC
            have he0 : erF E (smp f t) = 0 := hEr2.symm
            have HL : Hid (lo = crF S (smp f t) 0 0) := Lib.hid (by have h := hC; simp only [crF, List.append_nil] at h; exact h)
            have t1 : (q == t) = true := by simpa using hqt
            clear hEr2 hR hRn hka hC hqt
            go_wp2_with fail
            exact bodyPost_ret (v := .tuple #[.slice oa lo.length oc, .int .i64 0]) (by simp [results, Tryz.results21, go_sem]) rfl ⟨lay_ex w _, .inr ⟨he0, _, rfl, by rw [← HL.out]; exact (HO3.out).sl rcOk⟩⟩
          · have t1 : (q == t) = false := beq_eq_false_iff_ne.2 hqt
            rw [if_pos (by omega)] at hR
            obtain ⟨T, hT⟩ : ∃ T, mn (q + 1200000) t = T := ⟨_, rfl⟩
            have hTb : q < T ∧ T ≤ t := by rw [← hT, mn_eq]; omega
            rw [hT] at hR
            rw [← hR] at hEr2 hC
            have HER := Lib.hid hEr2
            have HC := Lib.hid hC
            have HKA : Hid (D ≠ 0 → f ≤ q ∧ q < T ∧ S q = D) := Lib.hid (fun _ => ⟨by omega, by omega, hD⟩)
            clear hEr2 hC hR hka hqt
            go_wp2_with fail
            go_roundw
            case rel => exact ⟨T, lo, q, D, d4, by omega, hTb.2, rfl, rfl, rfl, rfl, HO3.out, HC.out, HER.out, HKA.out⟩
            case measure => simp [intOf]; omega
        · have e3 : (k == 0) = false := beq_eq_false_iff_ne.2 hk0
          have e4 : (k != 0) = true := by simpa using hk0
          by_cases hDk : D = k
          · rw [cr_same (by rw [hD]; exact hD0) (.inr (hD.trans hDk)), hD] at hC
            subst hDk
            by_cases hqt : q = t
            · have hRn : R = [] := by rw [← hR, if_neg (by omega)]
              rw [hRn] at hEr2 hC
              have he0 : erF E (smp f t) = 0 := hEr2.symm
              have HL : Hid (lo = crF S (smp f t) 0 0) := Lib.hid (by have h := hC; simp only [crF, List.append_nil] at h; exact h)
              have t1 : (q == t) = true := by simpa using hqt
              clear hEr2 hR hRn hka hC hqt
              go_wp2_with fail
              exact bodyPost_ret (v := .tuple #[.slice oa lo.length oc, .int .i64 0]) (by simp [results, Tryz.results21, go_sem]) rfl ⟨lay_ex w _, .inr ⟨he0, _, rfl, by rw [← HL.out]; exact (HO3.out).sl rcOk⟩⟩
            · have t1 : (q == t) = false := beq_eq_false_iff_ne.2 hqt
              rw [if_pos (by omega)] at hR
              obtain ⟨T, hT⟩ : ∃ T, mn (q + 1200000) t = T := ⟨_, rfl⟩
              have hTb : q < T ∧ T ≤ t := by rw [← hT, mn_eq]; omega
              rw [hT] at hR
              rw [← hR] at hEr2 hC
              have HER := Lib.hid hEr2
              have HC := Lib.hid hC
              have HKA : Hid (D ≠ 0 → f ≤ q ∧ q < T ∧ S q = D) := Lib.hid (fun _ => ⟨by omega, by omega, hD⟩)
              clear hEr2 hC hR hka hqt
              go_wp2_with fail
              go_roundw
              case rel => exact ⟨T, lo, q, D, d4, by omega, hTb.2, rfl, rfl, rfl, rfl, HO3.out, HC.out, HER.out, HKA.out⟩
              case measure => simp [intOf]; omega
          · have e5 : (D == k) = false := beq_eq_false_iff_ne.2 hDk
            have e6 : (D != k) = true := by simpa using hDk
            obtain ⟨h1, h2, h3⟩ := hka hk0
            rw [cr_cross (by rw [hD]; exact hD0) hk0 (by rw [hD]; exact hDk), hD] at hC
            have hup : decide (k < 0) = decide (0 < D) := by rw [decide_eq_decide]; have := HS3.out a; omega
            rw [hup] at hC
            obtain ⟨UP, hUP⟩ : ∃ UP, decide (0 < D) = UP := ⟨_, rfl⟩
            rw [hUP] at hC
            have hP := lst_is S k ((q - a).toNat) a q (by omega) h2 h3
            have hQ := fst_is S D ((q - a).toNat) a q (by omega) h2 hD
            have HLa := Lib.hid (fun L => r50_last S E vp vs s u x n a q k (lay w L) (HS.out.on L) h2 (by omega) (by omega))
            have HFi := Lib.hid (fun L => r50_first S E vp vs s u x n a q D (lay w L) (HS.out.on L) h2 (by omega) (by omega))
            have hP2 : -70368744177664 ≤ lstR S k a q ∧ lstR S k a q ≤ 70368744177664 := by have := hP.2; omega
            have hQ2 : -70368744177664 ≤ fstR S D a q ∧ fstR S D a q ≤ 70368744177664 := by have := hQ.2; omega
            clear hP hQ
            generalize lstR S k a q = P at *
            generalize fstR S D a q = Q at *
            have HWC : Hid (rcR.wf ⟨P, Q, UP⟩) := Lib.hid ⟨show (Lit.int .i64 P).wf = true from lit_of (by omega) (by omega), show (Lit.int .i64 Q).wf = true from lit_of (by omega) (by omega)⟩
            have hC : (lo ++ [(⟨P, Q, UP⟩ : CrV)]) ++ crF S R q D = crF S (smp f t) 0 0 := by rw [List.append_assoc]; exact hC
            clear hP2 hQ2
            by_cases hqt : q = t
            · have hRn : R = [] := by rw [← hR, if_neg (by omega)]
              rw [hRn] at hEr2 hC
              have he0 : erF E (smp f t) = 0 := hEr2.symm
              have HL : Hid ((lo ++ [(⟨P, Q, UP⟩ : CrV)]) = crF S (smp f t) 0 0) := Lib.hid (by have h := hC; simp only [crF, List.append_nil] at h; exact h)
              have t1 : (q == t) = true := by simpa using hqt
              clear hEr2 hR hRn hka hC hqt
              go_wp2_with fail
              refine region_mixT 22 [0, 0, 0, 0, 0, 0, 0, 0, 0, 0, 0, 0, 0, 0, 0, 0, 0, 0, 0, 0, 0, 1] (by kernel_rfl) (by kernel_rfl) (by kernel_rfl) (by kernel_rfl) (by simp) (by kernel_rfl) ?_
              simp only [List.take_succ_cons, List.take_zero, List.drop_succ_cons, List.drop_zero]
              repeat (first | (refine wpM_quiet (fun K hK => ?_); go_simp; first | (refine hK _ ?_; clear hK K) | (apply Exists.intro; refine ⟨fun _ => ?_, hK _ ?_⟩; (first | (go_at_call 52; exact bq (HLa.out _) (fun d => ⟨d, rfl⟩)) | (go_at_call 53; exact bq (HFi.out _) (fun d => ⟨d, rfl⟩))); clear hK K)) | (refine wpM_special (fun K hK d => ?_); go_simp; refine hK _ _ (by first | exact lay_in w [_] _ | exact lay_in w [_, _] _ | exact lay_in w [_, _, _] _ | exact lay_in w [_, _, _, _] _ | exact lay_in w [_, _, _, _, _] _ | exact lay_in w [_, _, _, _, _, _] _) ?_; clear hK K))
              refine wpM_nil ?_
              intro d1
              rw [lay_bw]
              try rw [hUP]
              refine push_rec rcOk rfl _ _ rfl (lay w [.inl (Obj.cells #[.int .i64 u, .int .i64 x] 30), .inl (Obj.cells #[vp, vs] 38)]) _ ⟨P, Q, UP⟩ #[.int .i64 P, .int .i64 Q, .bool UP] 63 _ _ lo ?_ (by first | exact owG_on (A := [_, _, _]) HO3.out | exact owG_on (A := [_, _]) HO3.out) ?_ rfl rfl rfl (by omega) HWC.out ?_
              · first | exact lay_belowG (A := [_, _, _, _]) | exact lay_belowG (A := [_, _, _])
              · exact lay_get w _ 1 _ rfl
              intro v6 d6 hv6
              go_wp2_with fail
              exact bodyPost_ret (v := .tuple #[v6, .int .i64 0]) (by simp [results, Tryz.results21, go_sem]) rfl ⟨lay_ex w _, .inr ⟨he0, _, rfl, by rw [← HL.out]; exact (hv6).sl rcOk⟩⟩
            · have t1 : (q == t) = false := beq_eq_false_iff_ne.2 hqt
              rw [if_pos (by omega)] at hR
              obtain ⟨T, hT⟩ : ∃ T, mn (q + 1200000) t = T := ⟨_, rfl⟩
              have hTb : q < T ∧ T ≤ t := by rw [← hT, mn_eq]; omega
              rw [hT] at hR
              rw [← hR] at hEr2 hC
              have HER := Lib.hid hEr2
              have HC := Lib.hid hC
              have HKA : Hid (D ≠ 0 → f ≤ q ∧ q < T ∧ S q = D) := Lib.hid (fun _ => ⟨by omega, by omega, hD⟩)
              clear hEr2 hC hR hka hqt
              go_wp2_with fail
              refine region_mixT 22 [0, 0, 0, 0, 0, 0, 0, 0, 0, 0, 0, 0, 0, 0, 0, 0, 0, 0, 0, 0, 0, 1] (by kernel_rfl) (by kernel_rfl) (by kernel_rfl) (by kernel_rfl) (by simp) (by kernel_rfl) ?_
              simp only [List.take_succ_cons, List.take_zero, List.drop_succ_cons, List.drop_zero]
              repeat (first | (refine wpM_quiet (fun K hK => ?_); go_simp; first | (refine hK _ ?_; clear hK K) | (apply Exists.intro; refine ⟨fun _ => ?_, hK _ ?_⟩; (first | (go_at_call 52; exact bq (HLa.out _) (fun d => ⟨d, rfl⟩)) | (go_at_call 53; exact bq (HFi.out _) (fun d => ⟨d, rfl⟩))); clear hK K)) | (refine wpM_special (fun K hK d => ?_); go_simp; refine hK _ _ (by first | exact lay_in w [_] _ | exact lay_in w [_, _] _ | exact lay_in w [_, _, _] _ | exact lay_in w [_, _, _, _] _ | exact lay_in w [_, _, _, _, _] _ | exact lay_in w [_, _, _, _, _, _] _) ?_; clear hK K))
              refine wpM_nil ?_
              intro d1
              rw [lay_bw]
              try rw [hUP]
              refine push_rec rcOk rfl _ _ rfl (lay w [.inl (Obj.cells #[.int .i64 u, .int .i64 x] 30), .inl (Obj.cells #[vp, vs] 38)]) _ ⟨P, Q, UP⟩ #[.int .i64 P, .int .i64 Q, .bool UP] 63 _ _ lo ?_ (by first | exact owG_on (A := [_, _, _]) HO3.out | exact owG_on (A := [_, _]) HO3.out) ?_ rfl rfl rfl (by omega) HWC.out ?_
              · first | exact lay_belowG (A := [_, _, _, _]) | exact lay_belowG (A := [_, _, _])
              · exact lay_get w _ 1 _ rfl
              intro v6 d6 hv6
              go_wp2_with fail
              go_roundw
              case rel => exact ⟨T, (lo ++ [(⟨P, Q, UP⟩ : CrV)]), q, D, d6, by omega, hTb.2, rfl, rfl, rfl, rfl, hv6, HC.out, HER.out, HKA.out⟩
              case measure => simp [intOf]; omega
    · obtain ⟨EX, hEX⟩ : ∃ EX, E q = EX := ⟨_, rfl⟩
      have her : erF E (smp f t) = EX := by rw [← hEr]; show (if E q = 0 then erF E R else E q) = _; rw [if_neg hEq, hEX]
      rw [hEX] at HSm hEq
      have e1 : (EX != 0) = true := by simpa using hEq
      have e2 : (EX == 0) = false := beq_eq_false_iff_ne.2 hEq
      clear hC hEr hR hka
      go_wp2_with (first | (go_at_call 51; refine (HSm.out _).mono ?_; rintro e w' ⟨rfl, d3, rfl⟩; rw [lay_bw]))
      exact bodyPost_ret (v := .tuple #[.slice none 0 0, .int .i64 EX]) (by simp [results, Tryz.results21, go_sem]) rfl ⟨lay_ex _ _, .inl ⟨by rw [her]; exact hEq, by rw [her]⟩⟩
end Go.Proofs.YthjfadfebhjhbaaGreat

/- Contracts and plain laws, several texts in one: Pv3 -/
import Derived.Test.YtmmfkleplbofgaaGreatDoorProg
import Derived.WalkKit
import Derived.WalkSpells
import Derived.WalkLawsBesides
import Derived.Lib.Hide
import Derived.BigQuiet
import Derived.Test.YtmmfkleplbofgaaGreatDoorBAA
import Derived.Test.YtmmfkleplbofgaaGreatDoorBAB
import Derived.Test.YtmmfkleplbofgaaGreatDoorBAJ
/- Valid pages in the reference; Find. -/
namespace Go.Proofs.YtmmfkleplbofgaaGreatDoor
open Go.RowKit Go.Maps

set_option maxHeartbeats 2000000 in
set_option maxRecDepth 100000 in
theorem ref13_Find {P : Nat → Prop} (y m d : Int) (v : Value) (l : List TrkV) (s : ByteArray) (w : World) (hv : TksD P w v l) :
    Calls Tryz.prog 25 #[.agg #[.int .i64 y, .int .i64 m, .int .i64 d, v], .string s] w (IdxPostT w (fndT l s)) := by
  unfold fndT
  obtain ⟨p, hp⟩ : ∃ p : TrkV → Bool, (fun x => nmB x.s s) = p := ⟨_, rfl⟩
  rw [hp]
  have HPn : Hid (∀ x : TrkV, p x = (x.s.toList == s.toList)) := Lib.hid (fun x => by rw [← hp]; rfl)
  clear hp
  by_cases hz : l = []
  · subst hz
    obtain ⟨a, c, rfl⟩ := hv.form
    refine lay_start ?_
    go_enter Tryz.func25, Tryz.ntmps25
    go_wp2_with fail
    refine wp_loop_rounds 1 ?_
    rw [rounds_succ]
    go_wp2
    go_ret
    exact ⟨rfl, lay_ex _ _⟩
  · obtain ⟨b, o, c, rfl, hcc, hb, -, hr⟩ := hv.open (List.length_pos_iff.2 hz)
    obtain ⟨q, hq⟩ : ∃ q, l.length = q := ⟨_, rfl⟩
    have HQ := Lib.hid hq
    have HR := Lib.hid hr
    rw [hq] at hcc ⊢
    clear hr hv hz hq
    refine lay_start ?_
    go_enter Tryz.func25, Tryz.ntmps25
    go_wp2_with fail
    go_loopw [5] (fun v5 wr => ∃ (i : Nat) (dd : Ext), i ≤ q ∧ v5 = .int .i64 (i : Int) ∧ wr = lay w [.inr dd, .inl (.cells #[.int .i64 y, .int .i64 m, .int .i64 d, .slice (some ⟨b, o, none⟩) q c] 26 (0, 0))] ∧ idxR p l 0 = idxR p (l.drop i) i) (fun v5 _ => q - (intOf v5).toNat)
    case atStart => exact ⟨0, noExt _, Nat.zero_le _, rfl, (bw_noExt _).symm, rfl⟩
    case round =>
      obtain ⟨i, dd, hi, rfl, rfl, hA⟩ := hrel
      have HA := Lib.hid hA
      clear hA
      by_cases hlt : i < q
      · obtain ⟨t, ht⟩ : ∃ t, l[i]? = some t := ⟨_, List.getElem?_eq_getElem (by rw [HQ.out]; exact hlt)⟩
        obtain ⟨x, hw, hD, c0, -⟩ := HR.out i t ht
        rw [hD.s] at c0
        have hpx := HPn.out t
        have x1 : (i : Int) < (q : Int) := by omega
        have x0 : (0 : Int) ≤ (i : Int) := by omega
        clear hD hw
        cases ho : p t
        · have HN := Lib.hid (idxR_miss ht ho HA.out)
          rw [ho] at hpx
          have t1 := hpx.symm
          clear ho ht hpx
          generalize t.s = S at *
          go_wp2_with fail
          go_roundw
          case rel => exact ⟨i + 1, dd, by omega, by go_num, rfl, HN.out⟩
          case measure => simp [intOf]; omega
        · have HN := Lib.hid (idxR_got ht ho HA.out)
          rw [ho] at hpx
          have t1 := hpx.symm
          clear ho ht hpx
          generalize t.s = S at *
          go_wp2_with fail
          go_ret
          exact ⟨ret_int HN.out, lay_ex _ _⟩
      · obtain rfl : i = q := by omega
        have HN := Lib.hid (idxR_end (k := i) (by rw [HQ.out]; omega) HA.out)
        have x1 : ¬ (i : Int) < (i : Int) := by omega
        go_wp2
        go_ret
        exact ⟨ret_int HN.out, lay_ex _ _⟩
set_option maxHeartbeats 2000000 in
set_option maxRecDepth 100000 in
theorem ref13_Valid_head (y m d : Int) (a : Option Addr) (n c : Nat) (w : World) (hn : hdB y m d n = false) :
    Calls Tryz.prog 10 #[.agg #[.int .i64 y, .int .i64 m, .int .i64 d, .slice a n c]] w fun e w' => e = .returned (.bool false) ∧ ∃ d, w' = bw w d := by
  have HV := Lib.hid (fun W => ref09_Valid y m d W)
  unfold hdB at hn
  rw [decide_eq_false_iff_not] at hn
  cases hd : dateB y m d
  · rw [hd] at HV
    clear hn
    refine lay_start ?_
    go_enter Tryz.func10, Tryz.ntmps10
    go_wp2_with (go_at_call 21; refine (HV.out _).mono ?_; rintro e w' ⟨rfl, e1, rfl⟩)
    go_ret
    exact ⟨rfl, lay_ex _ _⟩
  · have HN := Lib.hid (fun W => ref09_Number y m d W hd)
    rw [hd] at HV
    have hb := numI_bd hd
    have hI : n ≤ 12 → inLB [numI y m d] (-300000) 300000 = false := fun h => inLB_no fun hh => by
      have := hh 0 Nat.zero_lt_one
      exact hn ⟨hd, this.1, this.2, h⟩
    generalize numI y m d = N at *
    by_cases h3 : 12 < n
    · have t3 : decide ((12 : Int) < (n : Int)) = true := decide_eq_true (by omega)
      clear h3 hn hd hI
      refine lay_start ?_
      go_enter Tryz.func10, Tryz.ntmps10
      go_wp2_with (go_at_call 21; refine (HV.out _).mono ?_; rintro e w' ⟨rfl, e1, rfl⟩)
      go_ret
      exact ⟨rfl, lay_ex _ _⟩
    · have t3 : decide ((12 : Int) < (n : Int)) = false := decide_eq_false (by omega)
      have hw : (Lit.int .i64 N).wf = true := by simp [Lit.wf, IntKind.min, IntKind.max, IntKind.bits, IntKind.signed]; omega
      have HI := Lib.hid (fun L => ref13_in _ [N] (-300000) 300000 _ (lst_one w L N 3 hw))
      rw [hI (by omega)] at HI
      clear h3 hn hd hI hw
      refine lay_start ?_
      go_enter Tryz.func10, Tryz.ntmps10
      go_wp2_with (first | (go_at_call 21; refine (HV.out _).mono ?_; rintro e w' ⟨rfl, e1, rfl⟩) | (go_at_call 23; refine (HN.out _).mono ?_; rintro e w' ⟨rfl, e2, rfl⟩))
      refine (HI.out [.inr e2, .inr e1, .inl (.cells #[.int .i64 y, .int .i64 m, .int .i64 d, .slice a n c] 26 (0, 0))]).mono ?_
      rintro e w' ⟨rfl, e3, rfl⟩
      rw [lay_bw]
      go_wp2_with fail
      go_ret
      exact ⟨rfl, lay_ex _ _⟩
set_option maxHeartbeats 4000000 in
set_option maxRecDepth 100000 in
theorem ref13_Valid {P : Nat → Prop} (y m d : Int) (v : Value) (l : List TrkV) (w : World) (hv : TksD P w v l) :
    Calls Tryz.prog 10 #[.agg #[.int .i64 y, .int .i64 m, .int .i64 d, v]] w fun e w' => e = .returned (.bool (pgB ⟨y, m, d, l⟩)) ∧ ∃ d, w' = bw w d := by
  cases hh : hdB y m d l.length
  · obtain ⟨a, c, rfl⟩ := hv.form
    have : false = pgB ⟨y, m, d, l⟩ := pgB_no (fun h => by
      unfold hdB at hh
      rw [decide_eq_false_iff_not] at hh
      exact hh ⟨h.dt, h.lo, h.hi, h.len⟩)
    rw [← this]
    exact ref13_Valid_head y m d a l.length c w hh
  · unfold hdB at hh
    rw [decide_eq_true_eq] at hh
    obtain ⟨hd, b0, b1, hl⟩ := hh
    have HV := Lib.hid (fun W => ref09_Valid y m d W)
    have HN := Lib.hid (fun W => ref09_Number y m d W hd)
    rw [hd] at HV
    have HBad : Hid (∀ i t, l[i]? = some t → ¬ TkOk1 l i t → false = pgB ⟨y, m, d, l⟩) := Lib.hid (fun i t ht h => pgB_no fun hp => h (hp.ok i t ht))
    have HAll : Hid ((∀ i t, l[i]? = some t → TkOk1 l i t) → true = pgB ⟨y, m, d, l⟩) := Lib.hid (fun h => pgB_yes ⟨hd, b0, b1, hl, h⟩)
    clear hd
    generalize numI y m d = N at *
    have hw : (Lit.int .i64 N).wf = true := by simp [Lit.wf, IntKind.min, IntKind.max, IntKind.bits, IntKind.signed]; omega
    have hI : inLB [N] (-300000) 300000 = true := inLB_iff.2 fun i hi => by
      obtain rfl : i = 0 := by have : i < 1 := hi; omega
      exact ⟨b0, b1⟩
    have HI := Lib.hid (fun L => ref13_in _ [N] (-300000) 300000 _ (lst_one w L N 3 hw))
    rw [hI] at HI
    clear hI hw
    by_cases hz : l = []
    · subst hz
      obtain ⟨a, c, rfl⟩ := hv.form
      have HB := Lib.hid (HAll.out (fun i t ht => by simp at ht))
      refine lay_start ?_
      go_enter Tryz.func10, Tryz.ntmps10
      go_wp2_with (first | (go_at_call 21; refine (HV.out _).mono ?_; rintro e w' ⟨rfl, e1, rfl⟩) | (go_at_call 23; refine (HN.out _).mono ?_; rintro e w' ⟨rfl, e2, rfl⟩))
      refine (HI.out [.inr e2, .inr e1, .inl (.cells #[.int .i64 y, .int .i64 m, .int .i64 d, .slice a 0 c] 26 (0, 0))]).mono ?_
      rintro e w' ⟨rfl, e3, rfl⟩
      rw [lay_bw]
      go_wp2_with fail
      refine wp_loop_rounds 1 ?_
      rw [rounds_succ]
      go_wp2
      go_ret
      exact ⟨ret_bool HB.out, lay_ex _ _⟩
    · have hvv := hv
      obtain ⟨b, o, c, rfl, hcc, hb, -, hr⟩ := hv.open (List.length_pos_iff.2 hz)
      have HF := Lib.hid (fun s L => ref13_Find y m d _ l s (lay w L) (hvv.lay L))
      unfold IdxPostT at HF
      obtain ⟨q, hq⟩ : ∃ q, l.length = q := ⟨_, rfl⟩
      have HQ := Lib.hid hq
      have HR := Lib.hid hr
      rw [hq] at hcc hl HF ⊢
      have t3 : decide ((12 : Int) < (q : Int)) = false := decide_eq_false (by omega)
      clear hr hv hvv hz hq
      generalize pgB ⟨y, m, d, l⟩ = RES at *
      refine lay_start ?_
      go_enter Tryz.func10, Tryz.ntmps10
      go_wp2_with (first | (go_at_call 21; refine (HV.out _).mono ?_; rintro e w' ⟨rfl, e1, rfl⟩) | (go_at_call 23; refine (HN.out _).mono ?_; rintro e w' ⟨rfl, e2, rfl⟩))
      refine (HI.out [.inr e2, .inr e1, .inl (.cells #[.int .i64 y, .int .i64 m, .int .i64 d, .slice (some ⟨b, o, none⟩) q c] 26 (0, 0))]).mono ?_
      rintro e w' ⟨rfl, e3, rfl⟩
      rw [lay_bw]
      go_wp2_with fail
      go_loopw [3] (fun v3 wr => ∃ (i : Nat) (dd : Ext), i ≤ q ∧ v3 = .int .i64 (i : Int) ∧ wr = lay w [.inr dd, .inl (.cells #[.int .i64 y, .int .i64 m, .int .i64 d, .slice (some ⟨b, o, none⟩) q c] 26 (0, 0))] ∧ ∀ (j : Nat) t, j < i → l[j]? = some t → TkOk1 l j t) (fun v3 _ => q - (intOf v3).toNat)
      case atStart => exact ⟨0, _, Nat.zero_le _, rfl, Classical.choose_spec (lay_fold w [_, _, _, _] _), fun j t hj => absurd hj (Nat.not_lt_zero j)⟩
      case round =>
        obtain ⟨i, dd, hi, rfl, rfl, hA⟩ := hrel
        have HA := Lib.hid hA
        clear hA
        by_cases hlt : i < q
        · obtain ⟨t, ht⟩ : ∃ t, l[i]? = some t := ⟨_, List.getElem?_eq_getElem (by rw [HQ.out]; exact hlt)⟩
          obtain ⟨x, hw, hD, c0, c1, c2, c3, c4, c5⟩ := HR.out i t ht
          have HT := Lib.hid (fun L => ref13_ValidTrack _ t (lay w L) ((hD.trk hw).lay L))
          have HNo := Lib.hid (HBad.out i t ht)
          have HFt := Lib.hid (fun L => HF.out t.s L)
          have HNx : Hid (TkOk1 l i t → ∀ (j : Nat) t', j < i + 1 → l[j]? = some t' → TkOk1 l j t') := Lib.hid (fun h j t' hj hj' => by
            by_cases e : j = i
            · subst e; rw [ht] at hj'; cases hj'; exact h
            · exact HA.out j t' (by omega) hj')
          have hsx := hD.s
          have x1 : (i : Int) < (q : Int) := by omega
          have x0 : (0 : Int) ≤ (i : Int) := by omega
          have hok : TkOk1 l i t ↔ trkB t = true ∧ fndT l t.s = (i : Int) := Iff.rfl
          have HOk := Lib.hid hok
          clear hD hw hok ht
          obtain ⟨xs, ga, gn, gc, da, dn, dc, xp, xq, xr⟩ := x
          dsimp only at hsx c0 c1 c2 c3 c4 c5
          subst hsx
          change Hid (∀ L, Calls Tryz.prog _ #[.agg #[.string t.s, .slice ga gn gc, .slice da dn dc, .int .i64 xp, .int .i64 xq, .int .i64 xr]] (lay w L) _) at HT
          generalize trkB t = TB at *
          generalize fndT l t.s = J at *
          generalize hS : t.s = S at *
          clear hS
          have hcase : (TB = true ∧ J = (i : Int)) ∨ (¬ TkOk1 l i t ∧ (TB = false ∨ (TB = true ∧ (J == (i : Int)) = false ∧ (J != (i : Int)) = true))) := by
            cases TB
            · exact .inr ⟨fun h => absurd (HOk.out.1 h).1 Bool.false_ne_true, .inl rfl⟩
            · by_cases hj : J = (i : Int)
              · exact .inl ⟨rfl, hj⟩
              · exact .inr ⟨fun h => hj (HOk.out.1 h).2, .inr ⟨rfl, beq_eq_false_iff_ne.2 hj, bne_iff_ne.2 hj⟩⟩
          rcases hcase with ⟨rfl, rfl⟩ | ⟨hno, hw⟩
          · have HY := Lib.hid (HNx.out (HOk.out.2 ⟨by first | trivial | rfl, by first | trivial | rfl⟩))
            go_wp2_with fail
            refine region_bw (by kernel_rfl) (by kernel_rfl) ?_
            repeat (go_big_quiet_step ((first | (go_at_call 24; exact bq (HT.out _) (fun d => lay_join _ _ _ d)) | (go_at_call 24; exact bq (HT.out _) (fun d => ⟨d, rfl⟩)) | (go_at_call 25; exact bq (HFt.out _) (fun d => lay_join _ _ _ d)) | (go_at_call 25; exact bq (HFt.out _) (fun d => ⟨d, rfl⟩)))))
            refine wpQuiet_nil ?_
            rintro w' ⟨d, rfl⟩
            rw [lay_bw]
            go_wp2_with fail
            go_roundw
            case rel => exact ⟨i + 1, _, by omega, by go_num, Classical.choose_spec (lay_fold w [_, _] _), HY.out⟩
            case measure => simp [intOf]; omega
          · have HB := Lib.hid (HNo.out hno)
            clear hno
            rcases hw with rfl | ⟨rfl, t8, t9⟩
            all_goals
              go_wp2_with fail
              refine region_bw (by kernel_rfl) (by kernel_rfl) ?_
              repeat (go_big_quiet_step ((first | (go_at_call 24; exact bq (HT.out _) (fun d => lay_join _ _ _ d)) | (go_at_call 24; exact bq (HT.out _) (fun d => ⟨d, rfl⟩)) | (go_at_call 25; exact bq (HFt.out _) (fun d => lay_join _ _ _ d)) | (go_at_call 25; exact bq (HFt.out _) (fun d => ⟨d, rfl⟩)))))
              refine wpQuiet_nil ?_
              rintro w' ⟨d, rfl⟩
              rw [lay_bw]
              go_wp2_with fail
              go_ret
              exact ⟨ret_bool HB.out, lay_ex _ _⟩
        · obtain rfl : i = q := by omega
          have HB := Lib.hid (HAll.out (fun j t ht => HA.out j t (by have := (List.getElem?_eq_some_iff.1 ht).1; rw [HQ.out] at this; exact this) ht))
          have x1 : ¬ (i : Int) < (i : Int) := by omega
          go_wp2_with fail
          go_ret
          exact ⟨ret_bool HB.out, lay_ex _ _⟩
end Go.Proofs.YtmmfkleplbofgaaGreatDoor

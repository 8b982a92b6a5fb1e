/- Contracts and plain laws, several texts in one: Pv3; Unq; Div; Shelf -/
import Derived.Test.YtlkphcjlgbimkaaGreatProg
import Derived.WalkKit
import Derived.WalkSpells
import Derived.WalkLawsBesides
import Derived.Lib.Hide
import Derived.BigQuiet
import Derived.Shelf.Small.Bits
import Derived.Shelf.Small.Wraps
import Derived.Shelf.Strconv.Itoa0
import Derived.Shelf.Sort.Plain
import Derived.Shelf.Bits.Mul64
import Derived.Shelf.Slices.Turned
import Derived.Shelf.Slices.Equal
import Derived.Ground.Names2Prog
import Derived.Shelf.Slices.Clone
import Derived.Shelf.Slices.CompactS
import Derived.Shelf.Slices.SearchI
import Derived.Shelf.Slices.Cells
import Derived.Shelf.Slices.In.SortNone
import Derived.Shelf.Slices.Empties
import Derived.Shelf.Slices.Empties2
import Derived.Test.YtlkphcjlgbimkaaGreatBAA
import Derived.Test.YtlkphcjlgbimkaaGreatBAB
import Derived.Test.YtlkphcjlgbimkaaGreatBAD
import Derived.Test.YtlkphcjlgbimkaaGreatBAF
/- Valid pages in the reference; Find. -/
namespace Go.Proofs.YtlkphcjlgbimkaaGreat
open Go.RowKit Go.Maps

set_option maxHeartbeats 2000000 in
set_option maxRecDepth 100000 in
theorem ref13_Find {P : Nat → Prop} (y m d : Int) (v : Value) (l : List TrkV) (s : ByteArray) (w : World) (hv : TksD P w v l) :
    Calls Tryz.prog 22 #[.agg #[.int .i64 y, .int .i64 m, .int .i64 d, v], .string s] w (IdxPost w (fndT l s)) := by
  unfold fndT
  obtain ⟨p, hp⟩ : ∃ p : TrkV → Bool, (fun x => nmB x.s s) = p := ⟨_, rfl⟩
  rw [hp]
  have HPn : Hid (∀ x : TrkV, p x = (x.s.toList == s.toList)) := Lib.hid (fun x => by rw [← hp]; rfl)
  clear hp
  by_cases hz : l = []
  · subst hz
    obtain ⟨a, c, rfl⟩ := hv.form
    refine lay_start ?_
    go_enter Tryz.func22, Tryz.ntmps22
    go_wp2_with fail
    refine wp_loop_rounds 1 ?_
    rw [rounds_succ]
    go_wp2
    go_ret
    exact ⟨rfl, lay_ex _ _⟩
  · obtain ⟨b, o, c, rfl, hcc, hb, -, hr⟩ := hv.open (List.length_pos_iff.2 hz)
    obtain ⟨q, hq⟩ : ∃ q, l.length = q := ⟨_, rfl⟩
    have HQ := Lib.hid hq
    have HR := Lib.hid hr
    rw [hq] at hcc ⊢
    clear hr hv hz hq
    refine lay_start ?_
    go_enter Tryz.func22, Tryz.ntmps22
    go_wp2_with fail
    go_loopw [5] (fun v5 wr => ∃ (i : Nat) (dd : Ext), i ≤ q ∧ v5 = .int .i64 (i : Int) ∧ wr = lay w [.inr dd, .inl (.cells #[.int .i64 y, .int .i64 m, .int .i64 d, .slice (some ⟨b, o, none⟩) q c] 53 (0, 0))] ∧ idxR p l 0 = idxR p (l.drop i) i) (fun v5 _ => q - (intOf v5).toNat)
    case atStart => exact ⟨0, noExt _, Nat.zero_le _, rfl, (bw_noExt _).symm, rfl⟩
    case round =>
      obtain ⟨i, dd, hi, rfl, rfl, hA⟩ := hrel
      have HA := Lib.hid hA
      clear hA
      by_cases hlt : i < q
      · obtain ⟨t, ht⟩ : ∃ t, l[i]? = some t := ⟨_, List.getElem?_eq_getElem (by rw [HQ.out]; exact hlt)⟩
        obtain ⟨x, hw, hD, c0, -⟩ := HR.out i t ht
        rw [hD.s] at c0
        have hpx := HPn.out t
        have x1 : (i : Int) < (q : Int) := by omega
        have x0 : (0 : Int) ≤ (i : Int) := by omega
        clear hD hw
        cases ho : p t
        · have HN := Lib.hid (idxR_miss ht ho HA.out)
          rw [ho] at hpx
          have t1 := hpx.symm
          clear ho ht hpx
          generalize t.s = S at *
          go_wp2_with fail
          go_roundw
          case rel => exact ⟨i + 1, dd, by omega, by go_num, rfl, HN.out⟩
          case measure => simp [intOf]; omega
        · have HN := Lib.hid (idxR_got ht ho HA.out)
          rw [ho] at hpx
          have t1 := hpx.symm
          clear ho ht hpx
          generalize t.s = S at *
          go_wp2_with fail
          go_ret
          exact ⟨ret_int HN.out, lay_ex _ _⟩
      · obtain rfl : i = q := by omega
        have HN := Lib.hid (idxR_end (k := i) (by rw [HQ.out]; omega) HA.out)
        have x1 : ¬ (i : Int) < (i : Int) := by omega
        go_wp2
        go_ret
        exact ⟨ret_int HN.out, lay_ex _ _⟩
set_option maxHeartbeats 2000000 in
set_option maxRecDepth 100000 in
theorem ref13_Valid_head (y m d : Int) (a : Option Addr) (n c : Nat) (w : World) (hn : hdB y m d n = false) :
    Calls Tryz.prog 21 #[.agg #[.int .i64 y, .int .i64 m, .int .i64 d, .slice a n c]] w fun e w' => e = .returned (.bool false) ∧ ∃ d, w' = bw w d := by
  have HV := Lib.hid (fun W => ref09_Valid y m d W)
  unfold hdB at hn
  rw [decide_eq_false_iff_not] at hn
  cases hd : dateB y m d
  · rw [hd] at HV
    clear hn
    refine lay_start ?_
    go_enter Tryz.func21, Tryz.ntmps21
    go_wp2_with (go_at_call 81; refine (HV.out _).mono ?_; rintro e w' ⟨rfl, e1, rfl⟩)
    go_ret
    exact ⟨rfl, lay_ex _ _⟩
  · have HN := Lib.hid (fun W => ref09_Number y m d W hd)
    rw [hd] at HV
    have hb := numI_bd hd
    have hI : n ≤ 12 → inLB [numI y m d] (-300000) 300000 = false := fun h => inLB_no fun hh => by
      have := hh 0 Nat.zero_lt_one
      exact hn ⟨hd, this.1, this.2, h⟩
    generalize numI y m d = N at *
    by_cases h3 : 12 < n
    · have t3 : decide ((12 : Int) < (n : Int)) = true := decide_eq_true (by omega)
      clear h3 hn hd hI
      refine lay_start ?_
      go_enter Tryz.func21, Tryz.ntmps21
      go_wp2_with (go_at_call 81; refine (HV.out _).mono ?_; rintro e w' ⟨rfl, e1, rfl⟩)
      go_ret
      exact ⟨rfl, lay_ex _ _⟩
    · have t3 : decide ((12 : Int) < (n : Int)) = false := decide_eq_false (by omega)
      have hw : (Lit.int .i64 N).wf = true := by simp [Lit.wf, IntKind.min, IntKind.max, IntKind.bits, IntKind.signed]; omega
      have HI := Lib.hid (fun L => ref13_in _ [N] (-300000) 300000 _ (lst_one w L N 3 hw))
      rw [hI (by omega)] at HI
      clear h3 hn hd hI hw
      refine lay_start ?_
      go_enter Tryz.func21, Tryz.ntmps21
      go_wp2_with (first | (go_at_call 81; refine (HV.out _).mono ?_; rintro e w' ⟨rfl, e1, rfl⟩) | (go_at_call 83; refine (HN.out _).mono ?_; rintro e w' ⟨rfl, e2, rfl⟩))
      refine (HI.out [.inr e2, .inr e1, .inl (.cells #[.int .i64 y, .int .i64 m, .int .i64 d, .slice a n c] 53 (0, 0))]).mono ?_
      rintro e w' ⟨rfl, e3, rfl⟩
      rw [lay_bw]
      go_wp2_with fail
      go_ret
      exact ⟨rfl, lay_ex _ _⟩
set_option maxHeartbeats 4000000 in
set_option maxRecDepth 100000 in
theorem ref13_Valid {P : Nat → Prop} (y m d : Int) (v : Value) (l : List TrkV) (w : World) (hv : TksD P w v l) :
    Calls Tryz.prog 21 #[.agg #[.int .i64 y, .int .i64 m, .int .i64 d, v]] w fun e w' => e = .returned (.bool (pgB ⟨y, m, d, l⟩)) ∧ ∃ d, w' = bw w d := by
  cases hh : hdB y m d l.length
  · obtain ⟨a, c, rfl⟩ := hv.form
    have : false = pgB ⟨y, m, d, l⟩ := pgB_no (fun h => by
      unfold hdB at hh
      rw [decide_eq_false_iff_not] at hh
      exact hh ⟨h.dt, h.lo, h.hi, h.len⟩)
    rw [← this]
    exact ref13_Valid_head y m d a l.length c w hh
  · unfold hdB at hh
    rw [decide_eq_true_eq] at hh
    obtain ⟨hd, b0, b1, hl⟩ := hh
    have HV := Lib.hid (fun W => ref09_Valid y m d W)
    have HN := Lib.hid (fun W => ref09_Number y m d W hd)
    rw [hd] at HV
    have HBad : Hid (∀ i t, l[i]? = some t → ¬ TkOk1 l i t → false = pgB ⟨y, m, d, l⟩) := Lib.hid (fun i t ht h => pgB_no fun hp => h (hp.ok i t ht))
    have HAll : Hid ((∀ i t, l[i]? = some t → TkOk1 l i t) → true = pgB ⟨y, m, d, l⟩) := Lib.hid (fun h => pgB_yes ⟨hd, b0, b1, hl, h⟩)
    clear hd
    generalize numI y m d = N at *
    have hw : (Lit.int .i64 N).wf = true := by simp [Lit.wf, IntKind.min, IntKind.max, IntKind.bits, IntKind.signed]; omega
    have hI : inLB [N] (-300000) 300000 = true := inLB_iff.2 fun i hi => by
      obtain rfl : i = 0 := by have : i < 1 := hi; omega
      exact ⟨b0, b1⟩
    have HI := Lib.hid (fun L => ref13_in _ [N] (-300000) 300000 _ (lst_one w L N 3 hw))
    rw [hI] at HI
    clear hI hw
    by_cases hz : l = []
    · subst hz
      obtain ⟨a, c, rfl⟩ := hv.form
      have HB := Lib.hid (HAll.out (fun i t ht => by simp at ht))
      refine lay_start ?_
      go_enter Tryz.func21, Tryz.ntmps21
      go_wp2_with (first | (go_at_call 81; refine (HV.out _).mono ?_; rintro e w' ⟨rfl, e1, rfl⟩) | (go_at_call 83; refine (HN.out _).mono ?_; rintro e w' ⟨rfl, e2, rfl⟩))
      refine (HI.out [.inr e2, .inr e1, .inl (.cells #[.int .i64 y, .int .i64 m, .int .i64 d, .slice a 0 c] 53 (0, 0))]).mono ?_
      rintro e w' ⟨rfl, e3, rfl⟩
      rw [lay_bw]
      go_wp2_with fail
      refine wp_loop_rounds 1 ?_
      rw [rounds_succ]
      go_wp2
      go_ret
      exact ⟨ret_bool HB.out, lay_ex _ _⟩
    · have hvv := hv
      obtain ⟨b, o, c, rfl, hcc, hb, -, hr⟩ := hv.open (List.length_pos_iff.2 hz)
      have HF := Lib.hid (fun s L => ref13_Find y m d _ l s (lay w L) (hvv.lay L))
      unfold IdxPost at HF
      obtain ⟨q, hq⟩ : ∃ q, l.length = q := ⟨_, rfl⟩
      have HQ := Lib.hid hq
      have HR := Lib.hid hr
      rw [hq] at hcc hl HF ⊢
      have t3 : decide ((12 : Int) < (q : Int)) = false := decide_eq_false (by omega)
      clear hr hv hvv hz hq
      generalize pgB ⟨y, m, d, l⟩ = RES at *
      refine lay_start ?_
      go_enter Tryz.func21, Tryz.ntmps21
      go_wp2_with (first | (go_at_call 81; refine (HV.out _).mono ?_; rintro e w' ⟨rfl, e1, rfl⟩) | (go_at_call 83; refine (HN.out _).mono ?_; rintro e w' ⟨rfl, e2, rfl⟩))
      refine (HI.out [.inr e2, .inr e1, .inl (.cells #[.int .i64 y, .int .i64 m, .int .i64 d, .slice (some ⟨b, o, none⟩) q c] 53 (0, 0))]).mono ?_
      rintro e w' ⟨rfl, e3, rfl⟩
      rw [lay_bw]
      go_wp2_with fail
      go_loopw [3] (fun v3 wr => ∃ (i : Nat) (dd : Ext), i ≤ q ∧ v3 = .int .i64 (i : Int) ∧ wr = lay w [.inr dd, .inl (.cells #[.int .i64 y, .int .i64 m, .int .i64 d, .slice (some ⟨b, o, none⟩) q c] 53 (0, 0))] ∧ ∀ (j : Nat) t, j < i → l[j]? = some t → TkOk1 l j t) (fun v3 _ => q - (intOf v3).toNat)
      case atStart => exact ⟨0, _, Nat.zero_le _, rfl, Classical.choose_spec (lay_fold w [_, _, _, _] _), fun j t hj => absurd hj (Nat.not_lt_zero j)⟩
      case round =>
        obtain ⟨i, dd, hi, rfl, rfl, hA⟩ := hrel
        have HA := Lib.hid hA
        clear hA
        by_cases hlt : i < q
        · obtain ⟨t, ht⟩ : ∃ t, l[i]? = some t := ⟨_, List.getElem?_eq_getElem (by rw [HQ.out]; exact hlt)⟩
          obtain ⟨x, hw, hD, c0, c1, c2, c3, c4, c5⟩ := HR.out i t ht
          have HT := Lib.hid (fun L => ref13_ValidTrack _ t (lay w L) ((hD.trk hw).lay L))
          have HNo := Lib.hid (HBad.out i t ht)
          have HFt := Lib.hid (fun L => HF.out t.s L)
          have HNx : Hid (TkOk1 l i t → ∀ (j : Nat) t', j < i + 1 → l[j]? = some t' → TkOk1 l j t') := Lib.hid (fun h j t' hj hj' => by
            by_cases e : j = i
            · subst e; rw [ht] at hj'; cases hj'; exact h
            · exact HA.out j t' (by omega) hj')
          have hsx := hD.s
          have x1 : (i : Int) < (q : Int) := by omega
          have x0 : (0 : Int) ≤ (i : Int) := by omega
          have hok : TkOk1 l i t ↔ trkB t = true ∧ fndT l t.s = (i : Int) := Iff.rfl
          have HOk := Lib.hid hok
          clear hD hw hok ht
          obtain ⟨xs, ga, gn, gc, da, dn, dc, xp, xq, xr⟩ := x
          dsimp only at hsx c0 c1 c2 c3 c4 c5
          subst hsx
          change Hid (∀ L, Calls Tryz.prog _ #[.agg #[.string t.s, .slice ga gn gc, .slice da dn dc, .int .i64 xp, .int .i64 xq, .int .i64 xr]] (lay w L) _) at HT
          generalize trkB t = TB at *
          generalize fndT l t.s = J at *
          generalize hS : t.s = S at *
          clear hS
          have hcase : (TB = true ∧ J = (i : Int)) ∨ (¬ TkOk1 l i t ∧ (TB = false ∨ (TB = true ∧ (J == (i : Int)) = false ∧ (J != (i : Int)) = true))) := by
            cases TB
            · exact .inr ⟨fun h => absurd (HOk.out.1 h).1 Bool.false_ne_true, .inl rfl⟩
            · by_cases hj : J = (i : Int)
              · exact .inl ⟨rfl, hj⟩
              · exact .inr ⟨fun h => hj (HOk.out.1 h).2, .inr ⟨rfl, beq_eq_false_iff_ne.2 hj, bne_iff_ne.2 hj⟩⟩
          rcases hcase with ⟨rfl, rfl⟩ | ⟨hno, hw⟩
          · have HY := Lib.hid (HNx.out (HOk.out.2 ⟨by first | trivial | rfl, by first | trivial | rfl⟩))
            go_wp2_with fail
            refine region_bw (by kernel_rfl) (by kernel_rfl) ?_
            repeat (go_big_quiet_step ((first | (go_at_call 84; exact bq (HT.out _) (fun d => lay_join _ _ _ d)) | (go_at_call 84; exact bq (HT.out _) (fun d => ⟨d, rfl⟩)) | (go_at_call 22; exact bq (HFt.out _) (fun d => lay_join _ _ _ d)) | (go_at_call 22; exact bq (HFt.out _) (fun d => ⟨d, rfl⟩)))))
            refine wpQuiet_nil ?_
            rintro w' ⟨d, rfl⟩
            rw [lay_bw]
            go_wp2_with fail
            go_roundw
            case rel => exact ⟨i + 1, _, by omega, by go_num, Classical.choose_spec (lay_fold w [_, _] _), HY.out⟩
            case measure => simp [intOf]; omega
          · have HB := Lib.hid (HNo.out hno)
            clear hno
            rcases hw with rfl | ⟨rfl, t8, t9⟩
            all_goals
              go_wp2_with fail
              refine region_bw (by kernel_rfl) (by kernel_rfl) ?_
              repeat (go_big_quiet_step ((first | (go_at_call 84; exact bq (HT.out _) (fun d => lay_join _ _ _ d)) | (go_at_call 84; exact bq (HT.out _) (fun d => ⟨d, rfl⟩)) | (go_at_call 22; exact bq (HFt.out _) (fun d => lay_join _ _ _ d)) | (go_at_call 22; exact bq (HFt.out _) (fun d => ⟨d, rfl⟩)))))
              refine wpQuiet_nil ?_
              rintro w' ⟨d, rfl⟩
              rw [lay_bw]
              go_wp2_with fail
              go_ret
              exact ⟨ret_bool HB.out, lay_ex _ _⟩
        · obtain rfl : i = q := by omega
          have HB := Lib.hid (HAll.out (fun j t ht => HA.out j t (by have := (List.getElem?_eq_some_iff.1 ht).1; rw [HQ.out] at this; exact this) ht))
          have x1 : ¬ (i : Int) < (i : Int) := by omega
          go_wp2_with fail
          go_ret
          exact ⟨ret_bool HB.out, lay_ex _ _⟩
end Go.Proofs.YtlkphcjlgbimkaaGreat
/- What a slice reads as is one; closures over pages that are said of the page's value. -/
namespace Go.Proofs.YtlkphcjlgbimkaaGreat
open Go.RowKit

theorem slG_uniq {α : Type} {R : RecT α} (hR : RecOk R) (hinj : ∀ x y, R.enc x = R.enc y → x = y) {w : World} {v : Value} {l m : List α} (h : SlG R w v l) (k : SlG R w v m) : l = m := by
  obtain ⟨a, c, e1⟩ := h.form
  obtain ⟨a', c', e2⟩ := k.form
  have hlen : l.length = m.length := (Value.slice.inj (e1.symm.trans e2)).2.1
  by_cases hz : l = []
  · subst hz
    exact (List.eq_nil_of_length_eq_zero hlen.symm).symm
  · obtain ⟨b, o, cap, rfl, _, _, hr⟩ := h.open (List.length_pos_iff.2 hz)
    refine List.ext_getElem hlen fun i h1 h2 => hinj _ _ ?_
    refine List.ext_getElem? fun j => ?_
    have hx : l[i]? = some l[i] := List.getElem?_eq_getElem h1
    have hy : m[i]? = some m[i] := List.getElem?_eq_getElem h2
    have hl1 := hR.len l[i]
    have hl2 := hR.len m[i]
    by_cases hj : j < R.k
    · have u1 : (R.enc l[i])[j]? = some (R.enc l[i])[j] := List.getElem?_eq_getElem (by omega)
      have u2 : (R.enc m[i])[j]? = some (R.enc m[i])[j] := List.getElem?_eq_getElem (by omega)
      have a1 := slG_get h hx u1
      have a2 := slG_get k hy u2
      rw [u1, u2, ← a1, ← a2]
    · rw [List.getElem?_eq_none (by omega), List.getElem?_eq_none (by omega)]
theorem sl_uniq {w : World} {v : Value} {l m : List Int} (h : Sl w v l) (k : Sl w v m) : l = m := by
  obtain ⟨a, c, e1, _, _, h3⟩ := h
  obtain ⟨a', c', e2, _, _, k3⟩ := k
  obtain ⟨rfl, hlen, rfl⟩ := Value.slice.inj (e1.symm.trans e2)
  by_cases hz : l = []
  · subst hz
    exact (List.eq_nil_of_length_eq_zero hlen.symm).symm
  · obtain ⟨b, o, rfl, _, hr⟩ := h3 hz
    have hz2 : m ≠ [] := fun h => hz (List.eq_nil_of_length_eq_zero (by rw [hlen, h]; rfl))
    obtain ⟨b', o', e, _, kr⟩ := k3 hz2
    cases e
    refine List.ext_getElem hlen fun i h1 h2 => ?_
    have a1 := hr i h1
    have a2 := kr i h2
    rw [a1] at a2
    simpa [nth, List.getD, h1, h2] using a2
theorem tkInj : ∀ x y, tkR.enc x = tkR.enc y → x = y := by
  rintro ⟨⟩ ⟨⟩ h
  simp only [tkR, List.cons.injEq, Value.string.injEq, Value.slice.injEq, Value.int.injEq, true_and, and_true] at h
  obtain ⟨h1, ⟨h2, h3, h4⟩, ⟨h5, h6, h7⟩, h8, h9, h10⟩ := h
  subst h1 h2 h3 h4 h5 h6 h7 h8 h9 h10
  rfl
theorem pgInj : ∀ x y, pgR.enc x = pgR.enc y → x = y := by
  rintro ⟨⟩ ⟨⟩ h
  simpa [pgR] using h
theorem tkD_uniq {P : Nat → Prop} {w : World} {x : TkW} {t u : TrkV} (h : TkD P w x t) (k : TkD P w x u) : t = u := by
  obtain ⟨a1, a2, a3, a4, a5, a6⟩ := h
  obtain ⟨b1, b2, b3, b4, b5, b6⟩ := k
  have e2 := sl_uniq a2.1 b2.1
  have e3 := sl_uniq a3.1 b3.1
  cases t; cases u
  simp_all
theorem tksD_uniq {P : Nat → Prop} {w : World} {v : Value} {l m : List TrkV} (h : TksD P w v l) (k : TksD P w v m) : l = m := by
  obtain ⟨ls, h1, _, h3, h4⟩ := h
  obtain ⟨ms, k1, _, k3, k4⟩ := k
  obtain rfl := slG_uniq tkOk tkInj h1 k1
  refine List.ext_getElem (by omega) fun i i1 i2 => ?_
  exact tkD_uniq (h4 i ls[i] l[i] (List.getElem?_eq_getElem (by omega)) (List.getElem?_eq_getElem i1)) (k4 i ls[i] m[i] (List.getElem?_eq_getElem (by omega)) (List.getElem?_eq_getElem i2))
theorem pgD_uniq {P : Nat → Prop} {w : World} {x : PgW} {t u : PgV} (h : PgD P w x t) (k : PgD P w x u) : t = u := by
  obtain ⟨a1, a2, a3, a4⟩ := h
  obtain ⟨b1, b2, b3, b4⟩ := k
  have e := tksD_uniq a4 b4
  cases t; cases u
  simp_all
/-- A predicate of pages is one of their cells. -/
theorem pg_lift {P : Nat → Prop} {w : World} {v : Value} {l : List PgV} (h : PgsD P w v l) (q : PgV → Bool) : ∃ (ls : List PgW) (p : PgW → Bool), SlG pgR w v ls ∧ ls.any p = l.any q ∧ ∀ x ∈ ls, ∃ t ∈ l, PgD P w x t ∧ p x = q t := by
  obtain ⟨ls, h1, h2, h3, h4⟩ := h
  classical
  have hp : ∀ x ∈ ls, ∃ t ∈ l, PgD P w x t ∧ (decide (∃ t, PgD P w x t ∧ q t = true)) = q t := fun x hx => by
    obtain ⟨i, hi, rfl⟩ := List.getElem_of_mem hx
    have ht := h4 i ls[i] l[i] (List.getElem?_eq_getElem hi) (List.getElem?_eq_getElem (by omega))
    refine ⟨l[i], List.getElem_mem _, ht, ?_⟩
    rw [Bool.eq_iff_iff, decide_eq_true_eq]
    exact ⟨fun ⟨t, a, b⟩ => by rw [pgD_uniq ht a]; exact b, fun h => ⟨_, ht, h⟩⟩
  refine ⟨ls, fun x => decide (∃ t, PgD P w x t ∧ q t = true), h1, ?_, hp⟩
  rw [Bool.eq_iff_iff, List.any_eq_true, List.any_eq_true]
  constructor
  · rintro ⟨x, hx, h⟩
    obtain ⟨t, ht, _, e⟩ := hp x hx
    exact ⟨t, ht, by rw [← e]; exact h⟩
  · rintro ⟨t, ht, h⟩
    obtain ⟨i, hi, rfl⟩ := List.getElem_of_mem ht
    refine ⟨ls[i], List.getElem_mem _, ?_⟩
    exact decide_eq_true ⟨l[i], h4 i ls[i] l[i] (List.getElem?_eq_getElem (by omega)) (List.getElem?_eq_getElem hi), h⟩
theorem tk_lift {P : Nat → Prop} {w : World} {v : Value} {l : List TrkV} (h : TksD P w v l) (q : TrkV → Bool) : ∃ (ls : List TkW) (p : TkW → Bool), SlG tkR w v ls ∧ ls.any p = l.any q ∧ ∀ x ∈ ls, ∃ t ∈ l, TkD P w x t ∧ p x = q t := by
  obtain ⟨ls, h1, h2, h3, h4⟩ := h
  classical
  have hp : ∀ x ∈ ls, ∃ t ∈ l, TkD P w x t ∧ (decide (∃ t, TkD P w x t ∧ q t = true)) = q t := fun x hx => by
    obtain ⟨i, hi, rfl⟩ := List.getElem_of_mem hx
    have ht := h4 i ls[i] l[i] (List.getElem?_eq_getElem hi) (List.getElem?_eq_getElem (by omega))
    refine ⟨l[i], List.getElem_mem _, ht, ?_⟩
    rw [Bool.eq_iff_iff, decide_eq_true_eq]
    exact ⟨fun ⟨t, a, b⟩ => by rw [tkD_uniq ht a]; exact b, fun h => ⟨_, ht, h⟩⟩
  refine ⟨ls, fun x => decide (∃ t, TkD P w x t ∧ q t = true), h1, ?_, hp⟩
  rw [Bool.eq_iff_iff, List.any_eq_true, List.any_eq_true]
  constructor
  · rintro ⟨x, hx, h⟩
    obtain ⟨t, ht, _, e⟩ := hp x hx
    exact ⟨t, ht, by rw [← e]; exact h⟩
  · rintro ⟨t, ht, h⟩
    obtain ⟨i, hi, rfl⟩ := List.getElem_of_mem ht
    refine ⟨ls[i], List.getElem_mem _, ?_⟩
    exact decide_eq_true ⟨l[i], h4 i ls[i] l[i] (List.getElem?_eq_getElem (by omega)) (List.getElem?_eq_getElem hi), h⟩
set_option maxHeartbeats 1000000 in
theorem alm_New1 {P : Nat → Prop} (x : PgW) (t : PgV) (w : World) (h : PgD P w x t) :
    Calls Tryz.prog 105 #[.agg #[.int .i64 x.y, .int .i64 x.m, .int .i64 x.d, .slice x.ta x.tn x.tc]] w fun e w' => e = .returned (.bool (!pgB t)) ∧ ∃ d, w' = bw w d := by
  obtain ⟨h1, h2, h3, h4⟩ := h
  have HV := Lib.hid (fun L => page_Valid x.y x.m x.d (.slice x.ta x.tn x.tc) t.ts (lay w L) (h4.lay L))
  rw [h1, h2, h3] at HV ⊢
  rw [show (⟨t.y, t.m, t.d, t.ts⟩ : PgV) = t from rfl] at HV
  generalize pgB t = r at *
  generalize t.y = y at *
  generalize t.m = m at *
  generalize t.d = d at *
  clear h1 h2 h3 h4
  generalize x.ta = xa at *
  generalize x.tn = xn at *
  generalize x.tc = xc at *
  cases r
  all_goals
    refine lay_start ?_
    go_enter Tryz.func105, Tryz.ntmps105
    go_wp2_with (go_at_call 106; refine (HV.out _).mono ?_; rintro e w' ⟨rfl, d1, rfl⟩)
    go_ret
    exact ⟨rfl, lay_ex _ _⟩
theorem pgs_bad {P : Nat → Prop} (v : Value) (l : List PgV) (w : World) (hv : PgsD P w v l) :
    Calls Tryz.prog 53 #[v, .func (.func 105) #[] #[]] w fun e w' => e = .returned (.bool (l.any fun p => !pgB p)) ∧ ∃ d, w' = bw w d := by
  obtain ⟨ls, p, h1, h2, h3⟩ := pg_lift hv (fun p => !pgB p)
  rw [← h2]
  have eI : ∀ args w, (callFunc 105 args).run Tryz.prog w = .ok (.enter 105 args) w := enters_of Tryz.func105 (by kernel_rfl) rfl
  refine pg_ContainsFunc 105 [] p v ls w h1 eI fun x hx d => ?_
  obtain ⟨t, _, ht, e⟩ := h3 x hx
  rw [e]
  refine (alm_New1 (P := P) x t (bw w d) ?_).mono fun e w' ⟨a, b, c⟩ => ⟨a, _, c.trans (bw_bw _ _ _)⟩
  exact ⟨ht.y, ht.m, ht.d, ht.ts.lay [.inr d]⟩
end Go.Proofs.YtlkphcjlgbimkaaGreat
/- The quotient of two words by one, as math/bits reckons it: the plain law (Knuth's digits, of any base B). No program in sight. -/
namespace Go.Proofs.YtlkphcjlgbimkaaGreat

/-- A digit's guess and its rest. -/
structure DI (B U y1 y0 c q r : Nat) : Prop where
  eq : q * y1 + r = U
  up : U * B + c < (q + 1) * (y1 * B + y0)
  qb : q ≤ B + 1
theorem di_init {B U y1 y0 c : Nat} (h1 : B ≤ 2 * y1) (h0 : y0 < B) (hU : U < y1 * B + y0) (hc : c < B) : DI B U y1 y0 c (U / y1) (U % y1) ∧ U % y1 < y1 := by
  have hlt : U % y1 < y1 := Nat.mod_lt _ (by omega)
  have he : U / y1 * y1 + U % y1 = U := by rw [Nat.mul_comm]; exact Nat.div_add_mod U y1
  refine ⟨⟨he, ?_, ?_⟩, hlt⟩
  · have h2 : U + 1 ≤ (U / y1 + 1) * y1 := by rw [Nat.succ_mul]; omega
    have h3 : (U + 1) * B ≤ (U / y1 + 1) * y1 * B := Nat.mul_le_mul_right _ h2
    have h4 : (U / y1 + 1) * (y1 * B + y0) = (U / y1 + 1) * y1 * B + (U / y1 + 1) * y0 := by rw [Nat.mul_add, Nat.mul_assoc]
    rw [h4]
    rw [Nat.succ_mul] at h3
    generalize (U / y1 + 1) * y1 * B = A at *
    generalize (U / y1 + 1) * y0 = C at *
    generalize U * B = D at *
    omega
  · have e : y1 * (B + 2) = y1 * B + y1 * 2 := Nat.mul_add _ _ _
    have h2 : U < y1 * (B + 2) := by
      rw [e]
      generalize y1 * B = A at *
      omega
    have := Nat.div_lt_of_lt_mul h2
    omega
theorem di_step {B U y1 y0 c q r : Nat} (h : DI B U y1 y0 c q r) (hU : U < y1 * B + y0) (hc : c < B) (hcond : B ≤ q ∨ r * B + c < q * y0) : 0 < q ∧ DI B U y1 y0 c (q - 1) (r + y1) ∧ q - 1 ≤ B := by
  have hq : 0 < q := by
    rcases hcond with h1 | h1
    · omega
    · rcases Nat.eq_zero_or_pos q with e | e
      · rw [e, Nat.zero_mul] at h1; omega
      · exact e
  obtain ⟨p, rfl⟩ : ∃ p, q = p + 1 := ⟨q - 1, by omega⟩
  have he := h.eq
  rw [Nat.succ_mul] at he
  refine ⟨hq, ⟨by rw [Nat.add_sub_cancel]; omega, ?_, by have := h.qb; omega⟩, by have := h.qb; omega⟩
  rw [Nat.add_sub_cancel]
  rcases hcond with h1 | h1
  · have h2 : (U + 1) * B ≤ (y1 * B + y0) * B := Nat.mul_le_mul_right _ hU
    have h3 : B * (y1 * B + y0) ≤ (p + 1) * (y1 * B + y0) := Nat.mul_le_mul_right _ h1
    rw [Nat.succ_mul] at h2
    rw [Nat.mul_comm B] at h3
    generalize (p + 1) * (y1 * B + y0) = A at *
    generalize (y1 * B + y0) * B = C at *
    generalize U * B = D at *
    omega
  · have h4 : (p + 1) * (y1 * B + y0) = (p + 1) * y1 * B + (p + 1) * y0 := by rw [Nat.mul_add, Nat.mul_assoc]
    have h5 : U * B = (p + 1) * y1 * B + r * B := by rw [← Nat.add_mul, h.eq]
    rw [h4, h5]
    generalize (p + 1) * y1 * B = A at *
    generalize (p + 1) * y0 = C at *
    generalize r * B = D at *
    omega
theorem di_done {B U y1 y0 c q r : Nat} (h : DI B U y1 y0 c q r) (hle : q * y0 ≤ r * B + c) : (U * B + c) / (y1 * B + y0) = q ∧ q * (y1 * B + y0) ≤ U * B + c := by
  have h4 : q * (y1 * B + y0) = q * y1 * B + q * y0 := by rw [Nat.mul_add, Nat.mul_assoc]
  have h5 : U * B = q * y1 * B + r * B := by rw [← Nat.add_mul, h.eq]
  have hup := h.up
  have hle2 : q * (y1 * B + y0) ≤ U * B + c := by
    rw [h4, h5]
    generalize q * y1 * B = A at *
    generalize q * y0 = C at *
    generalize r * B = D at *
    omega
  exact ⟨Nat.div_eq_of_lt_le hle2 hup, hle2⟩
theorem di_break {B y0 c q r : Nat} (h0 : y0 < B) (hq : q ≤ B) (hr : B ≤ r) : q * y0 ≤ r * B + c :=
  Nat.le_trans (Nat.mul_le_mul hq (Nat.le_of_lt h0)) (Nat.le_trans (Nat.mul_le_mul_right B hr) (Nat.le_add_right _ _))
/-- Two digits make the quotient. -/
theorem two_digits {B U c1 c0 y : Nat} (hy : 0 < y) : ((U * B + c1) * B + c0) / y = (U * B + c1) / y * B + ((U * B + c1) % y * B + c0) / y ∧
    ((U * B + c1) * B + c0) % y = ((U * B + c1) % y * B + c0) % y := by
  have h := Nat.div_add_mod (U * B + c1) y
  generalize U * B + c1 = T at *
  have e : T * B + c0 = y * (T / y * B) + (T % y * B + c0) := by
    have h2 : T * B = y * (T / y) * B + T % y * B := by rw [← Nat.add_mul, h]
    rw [h2, ← Nat.mul_assoc, Nat.add_assoc]
  constructor
  · rw [e, Nat.mul_add_div hy]
  · rw [e, Nat.mul_add_mod]
/-- The shift of both by the same count. -/
theorem shifted (M y s : Nat) : (M * 2 ^ s) / (y * 2 ^ s) = M / y ∧ (M * 2 ^ s) % (y * 2 ^ s) / 2 ^ s = M % y := by
  have hp : 0 < 2 ^ s := Nat.pow_pos (by decide)
  constructor
  · exact Nat.mul_div_mul_right M y hp
  · rw [Nat.mul_mod_mul_right, Nat.mul_div_cancel _ hp]
end Go.Proofs.YtlkphcjlgbimkaaGreat
/- DERIVED: THE SHELF's CONTRACTS AT THIS DUMP, IN PLAIN WORDS (tools/lay-plain.mjs out of 'TryzShelf.lean', which tools/lay-shelf.mjs wrote): THE SAME DECLARATIONS UNDER THE SAME NAMES: 'import', 'namespace', 'open', 'def', 'theorem' AND NOTHING ELSE: no command of the shelf's: FOR A HAND-IN. Each laying: the table of numbers ('.._ren') and one theorem, a field a fact of the dump's own or the kernel's comparison; each contract: ONE APPLICATION. -/
namespace Go.Proofs
open Go.Shelf
def Tryz.lays128_ren : Go.Shelf.Ren := ⟨fun | 128 => 184 | n => n, fun | 51 => 44 | 3 => 3 | 4 => 4 | 46 => 149 | 5 => 5 | 9 => 9 | n => n, fun | n => n⟩
theorem Tryz.lays128 : Go.Proofs.Lays.n128 Tryz.prog Tryz.lays128_ren := {
  mixed := by kernel_rfl
  f128 := Tryz.func184.trans (congrArg some (by kernel_rfl))
  t3 := Tryz.underlying3
  a3 := Tryz.isAgg3
  z3 := Tryz.sizeOf3
  v3 := Tryz.zeroValue3
  t4 := Tryz.underlying4
  a4 := Tryz.isAgg4
  z4 := Tryz.sizeOf4
  v4 := Tryz.zeroValue4
  t5 := Tryz.underlying5
  a5 := Tryz.isAgg5
  z5 := Tryz.sizeOf5
  v5 := Tryz.zeroValue5
  t9 := Tryz.underlying9
  a9 := Tryz.isAgg9
  z9 := Tryz.sizeOf9
  v9 := Tryz.zeroValue9
  t46 := Tryz.underlying149
  a46 := Tryz.isAgg149
  z46 := Tryz.sizeOf149
  v46 := Tryz.zeroValue149
  t51 := Tryz.underlying44
  a51 := Tryz.isAgg44
  z51 := Tryz.sizeOf44
  v51 := Tryz.zeroValue44 }
/-- bits.Len32: "Len32 returns the minimum number of bits required to represent x; the result is 0 for x == 0.": IT RETURNS 'Lib.bitLen x'; the world is as it was. ('h0', 'h1': x is a uint32.) (LAID: no walk: one application.) -/
theorem Tryz.bits_Len32 (x : Int) (w : World) (h0 : 0 ≤ x) (h1 : x ≤ 4294967295) :
    Calls Tryz.prog 184 #[.int .u32 x] w fun e w' => e = .returned (.int .i64 (Lib.bitLen x.toNat)) ∧ w' = w := Any.bits_Len32 Tryz.lays128 x w h0 h1
def Tryz.lays125_ren : Go.Shelf.Ren := ⟨fun | 125 => 151 | 128 => 184 | 129 => 163 | n => n, fun | 46 => 149 | 3 => 3 | 51 => 44 | 53 => 125 | 4 => 4 | 5 => 5 | 9 => 9 | n => n, fun | n => n⟩
theorem Tryz.lays125 : Go.Proofs.Lays.n125 Tryz.prog Tryz.lays125_ren := {
  mixed := by kernel_rfl
  f125 := Tryz.func151.trans (congrArg some (by kernel_rfl))
  f128 := Tryz.func184.trans (congrArg some (by kernel_rfl))
  f129 := Tryz.func163.trans (congrArg some (by kernel_rfl))
  t3 := Tryz.underlying3
  a3 := Tryz.isAgg3
  z3 := Tryz.sizeOf3
  v3 := Tryz.zeroValue3
  t4 := Tryz.underlying4
  a4 := Tryz.isAgg4
  z4 := Tryz.sizeOf4
  v4 := Tryz.zeroValue4
  t5 := Tryz.underlying5
  a5 := Tryz.isAgg5
  z5 := Tryz.sizeOf5
  v5 := Tryz.zeroValue5
  t9 := Tryz.underlying9
  a9 := Tryz.isAgg9
  z9 := Tryz.sizeOf9
  v9 := Tryz.zeroValue9
  t46 := Tryz.underlying149
  a46 := Tryz.isAgg149
  z46 := Tryz.sizeOf149
  v46 := Tryz.zeroValue149
  t51 := Tryz.underlying44
  a51 := Tryz.isAgg44
  z51 := Tryz.sizeOf44
  v51 := Tryz.zeroValue44
  t53 := Tryz.underlying125
  a53 := Tryz.isAgg125
  z53 := Tryz.sizeOf125
  v53 := Tryz.zeroValue125 }
/-- bits.Len: "Len returns the minimum number of bits required to represent x; the result is 0 for x == 0.": IT RETURNS 'Lib.bitLen x'; the world is as it was. (A uint has 64 bits in the model.) ITS CALLEE bits.Len64 IS MET BY ITS OWN CONTRACT OFF THE SHELF (lay that first). (LAID: no walk: one application.) -/
theorem Tryz.bits_Len (x : Int) (w : World) (h0 : 0 ≤ x) (h1 : x ≤ 18446744073709551615) :
    Calls Tryz.prog 151 #[.int .u64 x] w fun e w' => e = .returned (.int .i64 (Lib.bitLen x.toNat)) ∧ w' = w := Any.bits_Len Tryz.lays125 x w h0 h1
def Tryz.lays134_ren : Go.Shelf.Ren := ⟨fun | 134 => 137 | 129 => 163 | n => n, fun | 53 => 125 | 3 => 3 | 4 => 4 | 46 => 149 | 5 => 5 | 9 => 9 | n => n, fun | n => n⟩
theorem Tryz.lays134 : Go.Proofs.Lays.n134 Tryz.prog Tryz.lays134_ren := {
  mixed := by kernel_rfl
  f129 := Tryz.func163.trans (congrArg some (by kernel_rfl))
  f134 := Tryz.func137.trans (congrArg some (by kernel_rfl))
  t3 := Tryz.underlying3
  a3 := Tryz.isAgg3
  z3 := Tryz.sizeOf3
  v3 := Tryz.zeroValue3
  t4 := Tryz.underlying4
  a4 := Tryz.isAgg4
  z4 := Tryz.sizeOf4
  v4 := Tryz.zeroValue4
  t5 := Tryz.underlying5
  a5 := Tryz.isAgg5
  z5 := Tryz.sizeOf5
  v5 := Tryz.zeroValue5
  t9 := Tryz.underlying9
  a9 := Tryz.isAgg9
  z9 := Tryz.sizeOf9
  v9 := Tryz.zeroValue9
  t46 := Tryz.underlying149
  a46 := Tryz.isAgg149
  z46 := Tryz.sizeOf149
  v46 := Tryz.zeroValue149
  t53 := Tryz.underlying125
  a53 := Tryz.isAgg125
  z53 := Tryz.sizeOf125
  v53 := Tryz.zeroValue125 }
/-- bits.LeadingZeros64: "LeadingZeros64 returns the number of leading zero bits in x; the result is 64 for x == 0.": IT RETURNS '64 - Lib.bitLen x'; the world is as it was. ITS CALLEE bits.Len64 IS MET BY ITS OWN CONTRACT OFF THE SHELF (lay that first): entered in place it sends the kernel out of memory. (LAID: no walk: one application.) -/
theorem Tryz.bits_LeadingZeros64 (x : Int) (w : World) (h0 : 0 ≤ x) (h1 : x ≤ 18446744073709551615) :
    Calls Tryz.prog 137 #[.int .u64 x] w fun e w' => e = .returned (.int .i64 (64 - (Lib.bitLen x.toNat : Int))) ∧ w' = w := Any.bits_LeadingZeros64 Tryz.lays134 x w h0 h1
def Tryz.lays215_ren : Go.Shelf.Ren := ⟨fun | 215 => 192 | n => n, fun | 3 => 3 | 4 => 4 | n => n, fun | n => n⟩
theorem Tryz.lays215 : Go.Proofs.Lays.n215 Tryz.prog Tryz.lays215_ren := {
  mixed := by kernel_rfl
  f215 := Tryz.func192.trans (congrArg some (by kernel_rfl))
  t3 := Tryz.underlying3
  a3 := Tryz.isAgg3
  z3 := Tryz.sizeOf3
  v3 := Tryz.zeroValue3
  t4 := Tryz.underlying4
  a4 := Tryz.isAgg4
  z4 := Tryz.sizeOf4
  v4 := Tryz.zeroValue4 }
open Go.RowKit in
/-- cmp.isNaN at int: 'x != x': false. (LAID: no walk: one application.) -/
theorem Tryz.cmp_isNaN_int (x : Int) (w : World) :
    Calls Tryz.prog 192 #[.int .i64 x] w fun e w' => e = .returned (.bool false) ∧ w' = w := Any.cmp_isNaN_int Tryz.lays215 x w
def Tryz.lays129_ren : Go.Shelf.Ren := ⟨fun | 129 => 163 | n => n, fun | 53 => 125 | 3 => 3 | 4 => 4 | 46 => 149 | 5 => 5 | 9 => 9 | n => n, fun | n => n⟩
theorem Tryz.lays129 : Go.Proofs.Lays.n129 Tryz.prog Tryz.lays129_ren := {
  mixed := by kernel_rfl
  f129 := Tryz.func163.trans (congrArg some (by kernel_rfl))
  t3 := Tryz.underlying3
  a3 := Tryz.isAgg3
  z3 := Tryz.sizeOf3
  v3 := Tryz.zeroValue3
  t4 := Tryz.underlying4
  a4 := Tryz.isAgg4
  z4 := Tryz.sizeOf4
  v4 := Tryz.zeroValue4
  t5 := Tryz.underlying5
  a5 := Tryz.isAgg5
  z5 := Tryz.sizeOf5
  v5 := Tryz.zeroValue5
  t9 := Tryz.underlying9
  a9 := Tryz.isAgg9
  z9 := Tryz.sizeOf9
  v9 := Tryz.zeroValue9
  t46 := Tryz.underlying149
  a46 := Tryz.isAgg149
  z46 := Tryz.sizeOf149
  v46 := Tryz.zeroValue149
  t53 := Tryz.underlying125
  a53 := Tryz.isAgg125
  z53 := Tryz.sizeOf125
  v53 := Tryz.zeroValue125 }
/-- bits.Len64: "Len64 returns the minimum number of bits required to represent x; the result is 0 for x == 0.": IT RETURNS 'Lib.bitLen x'; the world is as it was. ('h0', 'h1': x is a uint64.) (LAID: no walk: one application.) -/
theorem Tryz.bits_Len64 (x : Int) (w : World) (h0 : 0 ≤ x) (h1 : x ≤ 18446744073709551615) :
    Calls Tryz.prog 163 #[.int .u64 x] w fun e w' => e = .returned (.int .i64 (Lib.bitLen x.toNat)) ∧ w' = w := Any.bits_Len64 Tryz.lays129 x w h0 h1
def Tryz.lays190_ren : Go.Shelf.Ren := ⟨fun | 190 => 116 | 125 => 151 | 258 => 150 | 128 => 184 | 129 => 163 | 302 => 175 | 303 => 176 | 304 => 177 | 305 => 178 | 306 => 179 | 307 => 180 | 308 => 181 | 309 => 182 | 310 => 183 | 333 => 198 | 329 => 199 | 330 => 200 | 334 => 201 | 335 => 202 | 336 => 203 | 344 => 213 | n => n, fun | 31 => 76 | 9 => 9 | 3 => 3 | 46 => 149 | 0 => 0 | 51 => 44 | 53 => 125 | 4 => 4 | 183 => 168 | 182 => 167 | 131 => 153 | 5 => 5 | 218 => 182 | 222 => 186 | 228 => 191 | 229 => 59 | n => n, fun | n => n⟩
theorem Tryz.lays190 : Go.Proofs.Lays.n190 Tryz.prog Tryz.lays190_ren := {
  mixed := by kernel_rfl
  f125 := Tryz.func151.trans (congrArg some (by kernel_rfl))
  f128 := Tryz.func184.trans (congrArg some (by kernel_rfl))
  f129 := Tryz.func163.trans (congrArg some (by kernel_rfl))
  f190 := Tryz.func116.trans (congrArg some (by kernel_rfl))
  f258 := Tryz.func150.trans (congrArg some (by kernel_rfl))
  f302 := Tryz.func175.trans (congrArg some (by kernel_rfl))
  f303 := Tryz.func176.trans (congrArg some (by kernel_rfl))
  f304 := Tryz.func177.trans (congrArg some (by kernel_rfl))
  f305 := Tryz.func178.trans (congrArg some (by kernel_rfl))
  f306 := Tryz.func179.trans (congrArg some (by kernel_rfl))
  f307 := Tryz.func180.trans (congrArg some (by kernel_rfl))
  f308 := Tryz.func181.trans (congrArg some (by kernel_rfl))
  f309 := Tryz.func182.trans (congrArg some (by kernel_rfl))
  f310 := Tryz.func183.trans (congrArg some (by kernel_rfl))
  f329 := Tryz.func199.trans (congrArg some (by kernel_rfl))
  f330 := Tryz.func200.trans (congrArg some (by kernel_rfl))
  f333 := Tryz.func198.trans (congrArg some (by kernel_rfl))
  f334 := Tryz.func201.trans (congrArg some (by kernel_rfl))
  f335 := Tryz.func202.trans (congrArg some (by kernel_rfl))
  f336 := Tryz.func203.trans (congrArg some (by kernel_rfl))
  f344 := Tryz.func213.trans (congrArg some (by kernel_rfl))
  t0 := Tryz.underlying0
  a0 := Tryz.isAgg0
  z0 := Tryz.sizeOf0
  v0 := Tryz.zeroValue0
  t3 := Tryz.underlying3
  a3 := Tryz.isAgg3
  z3 := Tryz.sizeOf3
  v3 := Tryz.zeroValue3
  t4 := Tryz.underlying4
  a4 := Tryz.isAgg4
  z4 := Tryz.sizeOf4
  v4 := Tryz.zeroValue4
  t5 := Tryz.underlying5
  a5 := Tryz.isAgg5
  z5 := Tryz.sizeOf5
  v5 := Tryz.zeroValue5
  t9 := Tryz.underlying9
  a9 := Tryz.isAgg9
  z9 := Tryz.sizeOf9
  v9 := Tryz.zeroValue9
  t31 := Tryz.underlying76
  a31 := Tryz.isAgg76
  z31 := Tryz.sizeOf76
  v31 := Tryz.zeroValue76
  t46 := Tryz.underlying149
  a46 := Tryz.isAgg149
  z46 := Tryz.sizeOf149
  v46 := Tryz.zeroValue149
  t51 := Tryz.underlying44
  a51 := Tryz.isAgg44
  z51 := Tryz.sizeOf44
  v51 := Tryz.zeroValue44
  t53 := Tryz.underlying125
  a53 := Tryz.isAgg125
  z53 := Tryz.sizeOf125
  v53 := Tryz.zeroValue125
  t131 := Tryz.underlying153
  a131 := Tryz.isAgg153
  z131 := Tryz.sizeOf153
  v131 := Tryz.zeroValue153
  t182 := Tryz.underlying167
  a182 := Tryz.isAgg167
  z182 := Tryz.sizeOf167
  v182 := Tryz.zeroValue167
  t183 := Tryz.underlying168
  a183 := Tryz.isAgg168
  z183 := Tryz.sizeOf168
  v183 := Tryz.zeroValue168
  t218 := Tryz.underlying182
  a218 := Tryz.isAgg182
  z218 := Tryz.sizeOf182
  v218 := Tryz.zeroValue182
  t222 := Tryz.underlying186
  a222 := Tryz.isAgg186
  z222 := Tryz.sizeOf186
  v222 := Tryz.zeroValue186
  t228 := Tryz.underlying191
  a228 := Tryz.isAgg191
  z228 := Tryz.sizeOf191
  v228 := Tryz.zeroValue191
  t229 := Tryz.underlying59
  a229 := Tryz.isAgg59
  z229 := Tryz.sizeOf59
  v229 := Tryz.zeroValue59 }
open Go.Sort Go.RowKit in
theorem Tryz.slices_Sort_string (blk off cap : Nat) (ss : List (List UInt8)) (w : World) (hH : Holds encStr w blk off ss.toArray) (hblk : blk < w.heap.size) (hsz : ss.length < 4611686018427387904) :
    Calls Tryz.prog 116 #[.slice (some ⟨blk, off, none⟩) ss.length cap] w fun e w' =>
      e = .returned (.tuple #[]) ∧ ∃ n os, w' = grow (putRow encStr (Sort.ahead w n) blk off (ss.mergeSort fun x y => decide (x ≤ y)).toArray) os := Any.slices_Sort_string Tryz.lays190 blk off cap ss w hH hblk hsz
def Tryz.lays264_ren : Go.Shelf.Ren := ⟨fun | 264 => 91 | n => n, fun | 53 => 125 | 46 => 149 | n => n, fun | n => n⟩
theorem Tryz.lays264 : Go.Proofs.Lays.n264 Tryz.prog Tryz.lays264_ren := {
  mixed := by kernel_rfl
  f264 := Tryz.func91.trans (congrArg some (by kernel_rfl))
  t46 := Tryz.underlying149
  a46 := Tryz.isAgg149
  z46 := Tryz.sizeOf149
  v46 := Tryz.zeroValue149
  t53 := Tryz.underlying125
  a53 := Tryz.isAgg125
  z53 := Tryz.sizeOf125
  v53 := Tryz.zeroValue125 }
open Go.RowKit Go.Lib in
theorem Tryz.bits_Mul64 (x y : Nat) (hx : x < 18446744073709551616) (hy : y < 18446744073709551616) (w : World) :
    Calls Tryz.prog 91 #[.int .u64 x, .int .u64 y] w fun e w' => e = .returned (.tuple #[.int .u64 ((x * y / 18446744073709551616 : Nat) : Int), .int .u64 ((x * y % 18446744073709551616 : Nat) : Int)]) ∧ w' = w := Any.bits_Mul64 Tryz.lays264 x y hx hy w
def Tryz.lays109_ren : Go.Shelf.Ren := ⟨fun | 109 => 115 | n => n, fun | 31 => 76 | 9 => 9 | 3 => 3 | 0 => 0 | 4 => 4 | n => n, fun | n => n⟩
theorem Tryz.lays109 : Go.Proofs.Lays.n109 Tryz.prog Tryz.lays109_ren := {
  mixed := by kernel_rfl
  f109 := Tryz.func115.trans (congrArg some (by kernel_rfl))
  t0 := Tryz.underlying0
  a0 := Tryz.isAgg0
  z0 := Tryz.sizeOf0
  v0 := Tryz.zeroValue0
  t3 := Tryz.underlying3
  a3 := Tryz.isAgg3
  z3 := Tryz.sizeOf3
  v3 := Tryz.zeroValue3
  t4 := Tryz.underlying4
  a4 := Tryz.isAgg4
  z4 := Tryz.sizeOf4
  v4 := Tryz.zeroValue4
  t9 := Tryz.underlying9
  a9 := Tryz.isAgg9
  z9 := Tryz.sizeOf9
  v9 := Tryz.zeroValue9
  t31 := Tryz.underlying76
  a31 := Tryz.isAgg76
  z31 := Tryz.sizeOf76
  v31 := Tryz.zeroValue76 }
open Go.Lib in
/-- slices.Index at []string: "Index returns the index of the first occurrence of v in s, or -1 if not present.": IT RETURNS 'Lib.idxOfS (the elements) v'; the world is as it was. 'zs': what the cells behind the slice's address hold (its spare capacity too, if you have it); 'zs.take n': its elements. (LAID: no walk: one application.) -/
theorem Tryz.slices_Index_string (b off n c : Nat) (zs : List ByteArray) (x : ByteArray) (w : World) (hz : n ≤ zs.length) (hbig : n ≤ 9223372036854775807) (hc : ∀ j, j < zs.length → w.cell? ⟨b, off + j, none⟩ = some (.string (zs.getD j ByteArray.empty))) :
    Calls Tryz.prog 115 #[.slice (some ⟨b, off, none⟩) n c, .string x] w fun e w' => e = .returned (.int .i64 (Lib.idxOfS (zs.take n) x)) ∧ w' = w := Any.slices_Index_string Tryz.lays109 b off n c zs x w hz hbig hc
open Go.Lib in
/-- The same at a slice of length 0, a nil one too: no cell is known, none is asked for. (LAID: no walk: one application.) -/
theorem Tryz.slices_Index_string_empty (a : Option Addr) (c : Nat) (x : ByteArray) (w : World) :
    Calls Tryz.prog 115 #[.slice a 0 c, .string x] w fun e w' => e = .returned (.int .i64 (Lib.idxOfS [] x)) ∧ w' = w := Any.slices_Index_string_empty Tryz.lays109 a c x w
def Tryz.lays110_ren : Go.Shelf.Ren := ⟨fun | 110 => 63 | 109 => 115 | n => n, fun | 31 => 76 | 9 => 9 | 4 => 4 | 3 => 3 | 0 => 0 | n => n, fun | n => n⟩
theorem Tryz.lays110 : Go.Proofs.Lays.n110 Tryz.prog Tryz.lays110_ren := {
  mixed := by kernel_rfl
  f109 := Tryz.func115.trans (congrArg some (by kernel_rfl))
  f110 := Tryz.func63.trans (congrArg some (by kernel_rfl))
  t0 := Tryz.underlying0
  a0 := Tryz.isAgg0
  z0 := Tryz.sizeOf0
  v0 := Tryz.zeroValue0
  t3 := Tryz.underlying3
  a3 := Tryz.isAgg3
  z3 := Tryz.sizeOf3
  v3 := Tryz.zeroValue3
  t4 := Tryz.underlying4
  a4 := Tryz.isAgg4
  z4 := Tryz.sizeOf4
  v4 := Tryz.zeroValue4
  t9 := Tryz.underlying9
  a9 := Tryz.isAgg9
  z9 := Tryz.sizeOf9
  v9 := Tryz.zeroValue9
  t31 := Tryz.underlying76
  a31 := Tryz.isAgg76
  z31 := Tryz.sizeOf76
  v31 := Tryz.zeroValue76 }
open Go.Lib in
/-- slices.Contains at []string: "Contains reports whether v is present in s.": IT RETURNS 'Lib.containsS (the elements) v', which is true just where v is among them ('Lib.containsS_iff'); the world is as it was. ITS CALLEE slices.Index IS MET BY ITS OWN CONTRACT OFF THE SHELF (lay that first): no loop is walked here. (LAID: no walk: one application.) -/
theorem Tryz.slices_Contains_string (b off n c : Nat) (zs : List ByteArray) (x : ByteArray) (w : World) (hz : n ≤ zs.length) (hbig : n ≤ 9223372036854775807) (hc : ∀ j, j < zs.length → w.cell? ⟨b, off + j, none⟩ = some (.string (zs.getD j ByteArray.empty))) :
    Calls Tryz.prog 63 #[.slice (some ⟨b, off, none⟩) n c, .string x] w fun e w' => e = .returned (.bool (Lib.containsS (zs.take n) x)) ∧ w' = w := Any.slices_Contains_string Tryz.lays110 b off n c zs x w hz hbig hc
open Go.Lib in
/-- The same at a slice of length 0, a nil one too. (LAID: no walk: one application.) -/
theorem Tryz.slices_Contains_string_empty (a : Option Addr) (c : Nat) (x : ByteArray) (w : World) :
    Calls Tryz.prog 63 #[.slice a 0 c, .string x] w fun e w' => e = .returned (.bool false) ∧ w' = w := Any.slices_Contains_string_empty Tryz.lays110 a c x w
def Tryz.lays193_ren : Go.Shelf.Ren := ⟨fun | 193 => 32 | n => n, fun | 31 => 76 | 9 => 9 | 4 => 4 | 3 => 3 | 0 => 0 | n => n, fun | n => n⟩
theorem Tryz.lays193 : Go.Proofs.Lays.n193 Tryz.prog Tryz.lays193_ren := {
  mixed := by kernel_rfl
  f193 := Tryz.func32.trans (congrArg some (by kernel_rfl))
  t0 := Tryz.underlying0
  a0 := Tryz.isAgg0
  z0 := Tryz.sizeOf0
  v0 := Tryz.zeroValue0
  t3 := Tryz.underlying3
  a3 := Tryz.isAgg3
  z3 := Tryz.sizeOf3
  v3 := Tryz.zeroValue3
  t4 := Tryz.underlying4
  a4 := Tryz.isAgg4
  z4 := Tryz.sizeOf4
  v4 := Tryz.zeroValue4
  t9 := Tryz.underlying9
  a9 := Tryz.isAgg9
  z9 := Tryz.sizeOf9
  v9 := Tryz.zeroValue9
  t31 := Tryz.underlying76
  a31 := Tryz.isAgg76
  z31 := Tryz.sizeOf76
  v31 := Tryz.zeroValue76 }
open Go.RowKit Go.Lib in
/-- slices.Equal at []string: "Equal reports whether two slices are equal: the same length and all elements equal. If the lengths are different, Equal returns false. Otherwise, the elements are compared in increasing index order, and the comparison stops at the first unequal pair. Empty and nil slices are considered equal.": IT RETURNS WHETHER THE TWO LISTS OF ELEMENTS ARE ONE; the world is as it was but for the count of draws (the test 's1[i] != s2[i]' has two reads, whose order the model draws, once a round). 'xs', 'ys': what the cells behind the two addresses hold (the spare capacity too, if you have it); 'xs.take n', 'ys.take m': the elements. THE TWO SLICES MAY OVERLAP. (LAID: no walk: one application.) -/
theorem Tryz.slices_Equal_string (b1 o1 n c b2 o2 m d : Nat) (xs ys : List ByteArray) (w : World) (hx : n ≤ xs.length) (hy : m ≤ ys.length) (hbig : n ≤ 9223372036854775807) (hbig2 : m ≤ 9223372036854775807) (hc1 : ∀ j, j < xs.length → w.cell? ⟨b1, o1 + j, none⟩ = some (.string (xs.getD j ByteArray.empty))) (hc2 : ∀ j, j < ys.length → w.cell? ⟨b2, o2 + j, none⟩ = some (.string (ys.getD j ByteArray.empty))) :
    Calls Tryz.prog 32 #[.slice (some ⟨b1, o1, none⟩) n c, .slice (some ⟨b2, o2, none⟩) m d] w fun e w' => e = .returned (.bool (decide (xs.take n = ys.take m))) ∧ ∃ q, w' = w.drewN q := Any.slices_Equal_string Tryz.lays193 b1 o1 n c b2 o2 m d xs ys w hx hy hbig hbig2 hc1 hc2
open Go.RowKit Go.Lib in
/-- The same where the first is of length 0 (a nil one too): no cell is asked for. (LAID: no walk: one application.) -/
theorem Tryz.slices_Equal_string_empty (a1 a2 : Option Addr) (c m d : Nat) (w : World) (hbig2 : m ≤ 9223372036854775807) :
    Calls Tryz.prog 32 #[.slice a1 0 c, .slice a2 m d] w fun e w' => e = .returned (.bool (decide (m = 0))) ∧ w' = w := Any.slices_Equal_string_empty Tryz.lays193 a1 a2 c m d w hbig2
def Tryz.laysNm215_ren : Go.Shelf.Ren := ⟨fun | 15 => 44 | n => n, fun | 22 => 55 | 3 => 3 | 4 => 4 | n => n, fun | n => n⟩
theorem Tryz.laysNm215 : Go.Proofs.Lays2.n15 Tryz.prog Tryz.laysNm215_ren := {
  mixed := by kernel_rfl
  f15 := Tryz.func44.trans (congrArg some (by kernel_rfl))
  t3 := Tryz.underlying3
  a3 := Tryz.isAgg3
  z3 := Tryz.sizeOf3
  v3 := Tryz.zeroValue3
  t4 := Tryz.underlying4
  a4 := Tryz.isAgg4
  z4 := Tryz.sizeOf4
  v4 := Tryz.zeroValue4
  t22 := Tryz.underlying55
  a22 := Tryz.isAgg55
  z22 := Tryz.sizeOf55
  v22 := Tryz.zeroValue55
  i3 := by kernel_rfl }
open Go.RowKit Go.Lib in
/-- slices.Clone at []int: "Clone returns a copy of the slice. The elements are copied using assignment, so this is a shallow clone. The result may have additional unused capacity. The result preserves the nilness of s.": OF A SLICE THAT IS NOT nil IT RETURNS A SLICE THAT IS NOT nil, OF THE SAME ELEMENTS, IN MEMORY OF THE CALL's OWN: in the how-to's words (6f): 'w'.ownsRow B e 1 v' n cells': v' begins at the head of a row among the blocks from B on (B: the heap's size at the call), not frozen, whose first cells are the elements · 'Below B w w'': below B all is as it was. The capacity is whatever the run-time gives. 'zs': what the cells behind the slice's address hold; 'zs.take n': its elements. (LAID: no walk: one application.) -/
theorem Tryz.slices_Clone_int (b off n c : Nat) (zs : List Int) (w : World) (hz : n ≤ zs.length) (hbig : n * 8 ≤ 140737488355328) (hc : ∀ j, j < zs.length → w.cell? ⟨b, off + j, none⟩ = some (.int .i64 (zs.getD j 0))) :
    Calls Tryz.prog 44 #[.slice (some ⟨b, off, none⟩) n c] w fun e w' => ∃ v', e = .returned v' ∧ w'.ownsRow w.heap.size 3 1 v' n ((zs.take n).map (Value.int .i64)) ∧ v' ≠ .slice none 0 0 ∧ Below w.heap.size w w' := Any.slices_Clone_int Tryz.laysNm215 b off n c zs w hz hbig hc
open Go.RowKit Go.Lib in
/-- The same at nil: nil comes back; the world is as it was. (LAID: no walk: one application.) -/
theorem Tryz.slices_Clone_int_nil (n c : Nat) (w : World) :
    Calls Tryz.prog 44 #[.slice none n c] w fun e w' => e = .returned (.slice none 0 0) ∧ w' = w := Any.slices_Clone_int_nil Tryz.laysNm215 n c w
open Go.RowKit Go.Lib in
/-- The same at a slice of length 0 that is not nil, WHATEVER ITS ADDRESS (no cell is asked for): a slice that is not nil and owns nothing comes back. (LAID: no walk: one application.) -/
theorem Tryz.slices_Clone_int_zero (a : Addr) (c : Nat) (w : World) :
    Calls Tryz.prog 44 #[.slice (some a) 0 c] w fun e w' => ∃ v', e = .returned v' ∧ w'.ownsRow w.heap.size 3 1 v' 0 [] ∧ v' ≠ .slice none 0 0 ∧ Below w.heap.size w w' := Any.slices_Clone_int_zero Tryz.laysNm215 a c w
def Tryz.lays194_ren : Go.Shelf.Ren := ⟨fun | 194 => 117 | n => n, fun | 31 => 76 | 9 => 9 | 3 => 3 | 4 => 4 | 0 => 0 | n => n, fun | n => n⟩
theorem Tryz.lays194 : Go.Proofs.Lays.n194 Tryz.prog Tryz.lays194_ren := {
  mixed := by kernel_rfl
  f194 := Tryz.func117.trans (congrArg some (by kernel_rfl))
  t0 := Tryz.underlying0
  a0 := Tryz.isAgg0
  z0 := Tryz.sizeOf0
  v0 := Tryz.zeroValue0
  t3 := Tryz.underlying3
  a3 := Tryz.isAgg3
  z3 := Tryz.sizeOf3
  v3 := Tryz.zeroValue3
  t4 := Tryz.underlying4
  a4 := Tryz.isAgg4
  z4 := Tryz.sizeOf4
  v4 := Tryz.zeroValue4
  t9 := Tryz.underlying9
  a9 := Tryz.isAgg9
  z9 := Tryz.sizeOf9
  v9 := Tryz.zeroValue9
  t31 := Tryz.underlying76
  a31 := Tryz.isAgg76
  z31 := Tryz.sizeOf76
  v31 := Tryz.zeroValue76 }
open Go.RowKit Go.Lib Go.Sort in
/-- slices.Compact at []string, over an array: the library's two loops are walked. (LAID: no walk: one application.) -/
theorem Tryz.slices_Compact_string_arr (blk off cap : Nat) (d : Array (List UInt8)) (w : World) (hH : Holds encStr w blk off d) (hsz : d.size ≤ 9223372036854775807) (hcap : d.size ≤ cap) :
    Calls Tryz.prog 117 #[.slice (some ⟨blk, off, none⟩) d.size cap] w fun e w' => e = .returned (.slice (some ⟨blk, off, none⟩) (compactUpTo d d.size).length cap) ∧ ∃ q, w' = putRow encStr (Sort.ahead w q) blk off (compactUpTo d d.size ++ List.replicate (d.size - (compactUpTo d d.size).length) []).toArray := Any.slices_Compact_string_arr Tryz.lays194 blk off cap d w hH hsz hcap
open Go.RowKit Go.Lib Go.Sort in
/-- slices.Compact at []string: "Compact replaces consecutive runs of equal elements with a single copy. This is like the uniq command found on Unix. Compact modifies the contents of the slice s and returns the modified slice, which may have a smaller length. Compact zeroes the elements between the new length and the original length. The result preserves the nilness of s.": IT RETURNS THE SLICE CUT TO 'Lib.compact zs'; ITS CELLS HOLD 'Lib.compact zs', THEN ZERO VALUES up to the old length; all else is as it was, but for the count of draws. IN THE WORDS OF slices.Sort's CONTRACT ('Holds', 'putRow'): so the everyday 'slices.Sort(xs); xs = slices.Compact(xs)' goes from the one contract to the other. It asks 'zs.length ≤ cap' (every slice's: the reslicing 's[:k]' looks at it). Length 0, nil: '.._empty'. (LAID: no walk: one application.) -/
theorem Tryz.slices_Compact_string (blk off cap : Nat) (zs : List (List UInt8)) (w : World) (hH : Holds encStr w blk off zs.toArray) (hsz : zs.length ≤ 9223372036854775807) (hcap : zs.length ≤ cap) :
    Calls Tryz.prog 117 #[.slice (some ⟨blk, off, none⟩) zs.length cap] w fun e w' => e = .returned (.slice (some ⟨blk, off, none⟩) (Lib.compact zs).length cap) ∧ ∃ q, w' = putRow encStr (Sort.ahead w q) blk off (Lib.compact zs ++ List.replicate (zs.length - (Lib.compact zs).length) []).toArray := Any.slices_Compact_string Tryz.lays194 blk off cap zs w hH hsz hcap
open Go.RowKit Go.Lib Go.Sort in
/-- The same at a slice of length 0, a nil one too: it comes back as it is. (LAID: no walk: one application.) -/
theorem Tryz.slices_Compact_string_empty (a : Option Addr) (cap : Nat) (w : World) :
    Calls Tryz.prog 117 #[.slice a 0 cap] w fun e w' => e = .returned (.slice a 0 cap) ∧ w' = w := Any.slices_Compact_string_empty Tryz.lays194 a cap w
def Tryz.laysNm237_ren : Go.Shelf.Ren := ⟨fun | 37 => 192 | n => n, fun | 3 => 3 | 4 => 4 | n => n, fun | n => n⟩
theorem Tryz.laysNm237 : Go.Proofs.Lays2.n37 Tryz.prog Tryz.laysNm237_ren := {
  mixed := by kernel_rfl
  f37 := Tryz.func192.trans (congrArg some (by kernel_rfl))
  t3 := Tryz.underlying3
  a3 := Tryz.isAgg3
  z3 := Tryz.sizeOf3
  v3 := Tryz.zeroValue3
  t4 := Tryz.underlying4
  a4 := Tryz.isAgg4
  z4 := Tryz.sizeOf4
  v4 := Tryz.zeroValue4 }
open Go.RowKit Go.Lib in
/-- cmp.isNaN[int]: 'x != x': false. (LAID: no walk: one application.) -/
theorem Tryz.cmp_isNaN_int2 (x : Int) (w : World) :
    Calls Tryz.prog 192 #[.int .i64 x] w fun e w' => e = .returned (.bool false) ∧ w' = w := Any.cmp_isNaN_int2 Tryz.laysNm237 x w
def Tryz.laysNm232_ren : Go.Shelf.Ren := ⟨fun | 32 => 165 | n => n, fun | 3 => 3 | 4 => 4 | n => n, fun | n => n⟩
theorem Tryz.laysNm232 : Go.Proofs.Lays2.n32 Tryz.prog Tryz.laysNm232_ren := {
  mixed := by kernel_rfl
  f32 := Tryz.func165.trans (congrArg some (by kernel_rfl))
  t3 := Tryz.underlying3
  a3 := Tryz.isAgg3
  z3 := Tryz.sizeOf3
  v3 := Tryz.zeroValue3
  t4 := Tryz.underlying4
  a4 := Tryz.isAgg4
  z4 := Tryz.sizeOf4
  v4 := Tryz.zeroValue4 }
open Go.RowKit Go.Lib in
/-- slices.isNaN[int]: 'x != x': false. (LAID: no walk: one application.) -/
theorem Tryz.slices_isNaN_int2 (x : Int) (w : World) :
    Calls Tryz.prog 165 #[.int .i64 x] w fun e w' => e = .returned (.bool false) ∧ w' = w := Any.slices_isNaN_int2 Tryz.laysNm232 x w
def Tryz.laysNm231_ren : Go.Shelf.Ren := ⟨fun | 31 => 164 | 37 => 192 | n => n, fun | 3 => 3 | 4 => 4 | n => n, fun | n => n⟩
theorem Tryz.laysNm231 : Go.Proofs.Lays2.n31 Tryz.prog Tryz.laysNm231_ren := {
  mixed := by kernel_rfl
  f31 := Tryz.func164.trans (congrArg some (by kernel_rfl))
  f37 := Tryz.func192.trans (congrArg some (by kernel_rfl))
  t3 := Tryz.underlying3
  a3 := Tryz.isAgg3
  z3 := Tryz.sizeOf3
  v3 := Tryz.zeroValue3
  t4 := Tryz.underlying4
  a4 := Tryz.isAgg4
  z4 := Tryz.sizeOf4
  v4 := Tryz.zeroValue4 }
open Go.RowKit Go.Lib in
/-- cmp.Less[int]: "Less reports whether x is less than y.": 'x < y'; the world is as it was. (LAID: no walk: one application.) -/
theorem Tryz.cmp_Less_int2 (x y : Int) (w : World) :
    Calls Tryz.prog 164 #[.int .i64 x, .int .i64 y] w fun e w' => e = .returned (.bool (decide (x < y))) ∧ w' = w := Any.cmp_Less_int2 Tryz.laysNm231 x y w
def Tryz.laysNm225_ren : Go.Shelf.Ren := ⟨fun | 25 => 138 | 31 => 164 | 32 => 165 | 37 => 192 | n => n, fun | 22 => 55 | 3 => 3 | 4 => 4 | 40 => 149 | 0 => 0 | n => n, fun | n => n⟩
theorem Tryz.laysNm225 : Go.Proofs.Lays2.n25 Tryz.prog Tryz.laysNm225_ren := {
  mixed := by kernel_rfl
  f25 := Tryz.func138.trans (congrArg some (by kernel_rfl))
  f31 := Tryz.func164.trans (congrArg some (by kernel_rfl))
  f32 := Tryz.func165.trans (congrArg some (by kernel_rfl))
  f37 := Tryz.func192.trans (congrArg some (by kernel_rfl))
  t0 := Tryz.underlying0
  a0 := Tryz.isAgg0
  z0 := Tryz.sizeOf0
  v0 := Tryz.zeroValue0
  t3 := Tryz.underlying3
  a3 := Tryz.isAgg3
  z3 := Tryz.sizeOf3
  v3 := Tryz.zeroValue3
  t4 := Tryz.underlying4
  a4 := Tryz.isAgg4
  z4 := Tryz.sizeOf4
  v4 := Tryz.zeroValue4
  t22 := Tryz.underlying55
  a22 := Tryz.isAgg55
  z22 := Tryz.sizeOf55
  v22 := Tryz.zeroValue55
  t40 := Tryz.underlying149
  a40 := Tryz.isAgg149
  z40 := Tryz.sizeOf149
  v40 := Tryz.zeroValue149 }
open Go.RowKit Go.Lib in
/-- slices.BinarySearch at []int: "BinarySearch searches for target in a sorted slice and returns the earliest position where target is found, or the position where target would appear in the sort order; it also returns a bool saying whether the target is really found in the slice. The slice must be sorted in increasing order.": OF A SORTED SLICE IT RETURNS how many elements are less than the target, and whether the target is among the elements; the world is as it was but for the count of draws. 'zs': what the cells behind the slice's address hold; 'zs.take n': its elements. (Of a slice that is not sorted: no contract here.) (LAID: no walk: one application.) -/
theorem Tryz.slices_BinarySearch_int (b off n c : Nat) (zs : List Int) (x : Int) (w : World) (hz : n ≤ zs.length) (hbig : n < 4611686018427387904) (hc : ∀ j, j < zs.length → w.cell? ⟨b, off + j, none⟩ = some (.int .i64 (zs.getD j 0))) (hs : (zs.take n).Pairwise (· ≤ ·)) :
    Calls Tryz.prog 138 #[.slice (some ⟨b, off, none⟩) n c, .int .i64 x] w fun e w' => e = .returned (.tuple #[.int .i64 ((zs.take n).countP (· < x) : Nat), .bool ((zs.take n).contains x)]) ∧ ∃ q, w' = w.drewN q := Any.slices_BinarySearch_int Tryz.laysNm225 b off n c zs x w hz hbig hc hs
open Go.RowKit Go.Lib Go.Sort in
/-- slices.Compact at []string, of an argument. (LAID: no walk: one application.) -/
theorem Tryz.slices_Compact_string_cells (b off n c : Nat) (Sx : Nat → ByteArray) (w : World) (hbig : n ≤ 9223372036854775807) (hcap : n ≤ c) (hc : ∀ i, i < n → w.cell? ⟨b, off + i, none⟩ = some (.string (Sx i))) (hf : ∀ j, j < n → w.frozen? ⟨b, off + j, none⟩ = false) :
    Calls Tryz.prog 117 #[.slice (some ⟨b, off, none⟩) n c] w fun e w' => e = .returned (.slice (some ⟨b, off, none⟩) (Lib.compact (Lib.strsOf Sx n)).length c) ∧ ∃ q, w' = (w.drewN q).setCells b off ((Lib.compact (Lib.strsOf Sx n) ++ List.replicate (n - (Lib.compact (Lib.strsOf Sx n)).length) []).map encStr) := Any.slices_Compact_string_cells Tryz.lays194 b off n c Sx w hbig hcap hc hf
open Go.RowKit Go.Sort in
/-- .. and plain. (LAID: no walk: one application.) -/
theorem Tryz.slices_Sort_string_none (p : Option Addr) (cap : Nat) (w : World) :
    Calls Tryz.prog 116 #[.slice p 0 cap] w fun e w' => e = .returned (.tuple #[]) ∧ w' = w := Any.slices_Sort_string_none Tryz.lays190 p cap w
open Go.RowKit Go.Lib in
/-- slices.BinarySearch at []int of no element: position 0, not found; the world is as it was. (LAID: no walk: one application.) -/
theorem Tryz.slices_BinarySearch_int_empty (a : Option Addr) (c : Nat) (x : Int) (w : World) :
    Calls Tryz.prog 138 #[.slice a 0 c, .int .i64 x] w fun e w' => e = .returned (.tuple #[.int .i64 0, .bool false]) ∧ w' = w := Any.slices_BinarySearch_int_empty Tryz.laysNm225 a c x w
open Go.RowKit Go.Lib in
theorem Tryz.slices_Equal_string_lens (a1 a2 : Option Addr) (n c m d : Nat) (w : World) (hnm : n ≠ m) :
    Calls Tryz.prog 32 #[.slice a1 n c, .slice a2 m d] w fun e w' => e = .returned (.bool false) ∧ w' = w := Any.slices_Equal_string_lens Tryz.lays193 a1 a2 n c m d w hnm
end Go.Proofs

/- Contracts and plain laws, several texts in one: HxF -/
import Derived.Test.YthjfadfebhjhbaaGreatProg
import Derived.WalkKit
import Derived.WalkSpells
import Derived.WalkLawsBesides
import Derived.Lib.Hide
import Derived.BigQuiet
import Derived.Test.YthjfadfebhjhbaaGreatQAA
import Derived.Test.YthjfadfebhjhbaaGreatQAB
import Derived.Test.YthjfadfebhjhbaaGreatQBR
import Derived.Test.YthjfadfebhjhbaaGreatQBY
/- The law HorizonDays. -/
namespace Go.Proofs.YthjfadfebhjhbaaGreat
open Go.RowKit Go.Shelf

set_option maxHeartbeats 1000000 in
theorem tm_EqualNil (w : World) :
    Calls Tryz.prog 27 #[.slice none 0 0, .slice none 0 0] w fun e w' => e = .returned (.bool true) ∧ ∃ d, w' = bw w d := by
  refine lay_start ?_
  go_enter Tryz.func27, Tryz.ntmps27
  go_wp2_with fail
  go_loopw [13] (fun v13 wr => ∃ (d : Ext), v13 = .int .i64 0 ∧ wr = lay w [.inr d]) (fun v13 _ => (3 - intOf v13).toNat)
  case atStart => exact ⟨noExt _, rfl, (bw_noExt _).symm⟩
  case round =>
    obtain ⟨d, rfl, rfl⟩ := hrel
    go_wp2_with fail
    go_ret
    exact ⟨rfl, lay_ex _ _⟩
set_option maxHeartbeats 4000000 in
set_option maxRecDepth 100000 in
theorem tm_Equal (v1 v2 : Value) (l : List TmV) (w : World) (h1 : TmC w v1 l) (h2 : TmC w v2 l) (hl : l.length ≤ 145) :
    Calls Tryz.prog 27 #[v1, v2] w fun e w' => e = .returned (.bool true) ∧ ∃ d, w' = bw w d := by
  obtain ⟨b1, o1, c1, rfl, hc1, hb1, hr1⟩ := h1
  obtain ⟨b2, o2, c2, rfl, hc2, hb2, hr2⟩ := h2
  obtain ⟨N, hN⟩ : ∃ N, l.length = N := ⟨_, rfl⟩
  rw [hN] at hl hc1 hc2 ⊢
  have HR1 := Lib.hid hr1
  have HR2 := Lib.hid hr2
  clear hr1 hr2
  refine lay_start ?_
  go_enter Tryz.func27, Tryz.ntmps27
  go_wp2_with fail
  go_loopw [13] (fun v13 wr => ∃ (i : Nat) (d : Ext), i ≤ N ∧ v13 = .int .i64 (i : Int) ∧ wr = lay w [.inr d]) (fun v13 _ => ((N : Int) - intOf v13).toNat)
  case atStart => exact ⟨0, noExt _, Nat.zero_le _, rfl, (bw_noExt _).symm⟩
  case round =>
    obtain ⟨i, d, hi, rfl, rfl⟩ := hrel
    have kI : IntKind.i64.wrap ((i : Int) + 1) = ((i + 1 : Nat) : Int) := by rw [IntWalk.i64_in _ (by omega)]; omega
    by_cases c : i < N
    · obtain ⟨z, hz⟩ : ∃ z, l[i]? = some z := ⟨_, List.getElem?_eq_getElem (by omega)⟩
      obtain ⟨e0, e1⟩ := HR1.out i z hz
      obtain ⟨g0, g1⟩ := HR2.out i z hz
      obtain ⟨z0, z1⟩ := z
      dsimp only at e0 e1 g0 g1
      have i0 : (0 : Int) ≤ (i : Int) := by omega
      have i1 : (i : Int) < (N : Int) := by omega
      have q0 : (z0 == z0) = true := beq_self_eq_true _
      have q1 : (z1 == z1) = true := beq_self_eq_true _
      clear hz
      go_wp2_with fail
      refine region_bw (by kernel_rfl) (by kernel_rfl) ?_
      repeat (go_big_quiet_step ((first | fail)))
      refine wpQuiet_nil ?_
      rintro w' ⟨d, rfl⟩
      rw [lay_bw]
      go_wp2_with fail
      go_roundw
      case rel => exact ⟨i + 1, _, by omega, rfl, (lay_ex w _).choose_spec⟩
      case measure => simp [intOf]; omega
    · go_wp2_with fail
      go_ret
      exact ⟨rfl, lay_ex _ _⟩
theorem TmC.ext {w w' : World} {v : Value} {L : List TmV} (h : TmC w v L) (hb : Below w.heap.size w w') : TmC w' v L := by
  obtain ⟨b, o, c, e, hc, h5, hr⟩ := h
  exact ⟨b, o, c, e, hc, Nat.lt_of_lt_of_le h5 hb.size, fun i x hx => ⟨(hb.cell (p := ⟨b, o + i * 2, none⟩) h5).trans (hr i x hx).1, (hb.cell (p := ⟨b, o + i * 2 + 1, none⟩) h5).trans (hr i x hx).2⟩⟩
theorem tmC_on {w : World} {v : Value} {L : List TmV} {A B : List (Obj ⊕ Ext)} (h : TmC (lay w B) v L) : TmC (lay w (A ++ B)) v L := h.ext lay_belowG
theorem twL_len (a b c : List CrV) : (twL a b c).length ≤ 145 := by show (6 : Nat) ≤ 145; decide
set_option maxHeartbeats 8000000 in
set_option maxRecDepth 100000 in
theorem law50_Days (vp : Value) (lp : List PgV) {w : World} (hp : PgsD (InB w) w vp lp) (vs : Value) (ls : List StarV) (hv : SlG stR w vs ls) (s : ByteArray) (_ : s.size ≤ maxLen) (u x : Int) (_ : (Lit.int .i64 u).wf = true) (_ : (Lit.int .i64 x).wf = true) (f : Int) (_ : (Lit.int .i64 f).wf = true) (dk : Bool) :
    Calls Tryz.prog 7 #[vp, vs, .string s, (.agg #[.int .i64 (u), .int .i64 (x)]), .int .i64 f, .bool dk] w fun e w' => e = .returned (.bool true) ∧ ∃ d, w' = bw w d := by
  have HAw := Lib.hid (fun W => law50_awake W)
  have HM := Lib.hid (fun L => law50_made vp vs lp ls s (lay w L) (hp.lay L) (inB_lay L) (hv.lay L))
  have HQ := Lib.hid (fun W => r50_Valid u x W)
  have HRn := Lib.hid (fun W => hz_RiseSet_nil s u x f W)
  have HTn := Lib.hid (fun W => hz_Twilight_nil u x f W)
  have HRf0 := Lib.hid (fun k L => (rfL_of hp hv k).lay L)
  obtain ⟨pa, pc, rfl⟩ := pgs_form hp
  obtain ⟨sa, sc, rfl⟩ := hv.form
  generalize ls.length = m at *
  generalize lp.length = pn at *
  clear hp hv
  refine lay_start ?_
  go_enter Tryz.func7, Tryz.ntmps7
  go_wp2_with (first | (go_at_call 8; refine (HAw.out _).mono ?_; rintro e w' ⟨rfl, d1, rfl⟩; rw [lay_bw]) | (go_at_call 24; refine (HRn.out _).mono ?_; rintro e w' ⟨rfl, d2, rfl⟩; rw [lay_bw]) | (go_at_call 25; refine (HTn.out _).mono ?_; rintro e w' ⟨rfl, d3, rfl⟩; rw [lay_bw]))
  refine (HM.out _).mono ?_
  rintro e w' hm
  rcases hm with ⟨rfl, d4, rfl⟩ | ⟨hE, bk, w1, d4, rfl, rfl, hB⟩
  · rw [lay_bw]
    go_wp2_with fail
    go_ret
    exact ⟨rfl, lay_ex _ _⟩
  · have hk := newE_0 hE
    rw [lay_bw] at hB ⊢
    cases hq : ptB u x
    · have HRp := Lib.hid (fun W => hz_RiseSet_pt bk s u x f W hq)
      have HTp := Lib.hid (fun W => hz_Twilight_pt bk u x f W hq)
      rw [hq] at HQ
      clear hB hk hE HM HAw HRf0 hq HRn HTn
      cases dk
      · go_wp2_with (first | (go_at_call 16; refine (HQ.out _).mono ?_; rintro e w' ⟨rfl, dQ, rfl⟩; rw [lay_bw]) | (go_at_call 24; refine (HRp.out _).mono ?_; rintro e w' ⟨rfl, dC, rfl⟩; rw [lay_bw]))
        go_ret
        exact ⟨rfl, lay_ex _ _⟩
      · go_wp2_with (first | (go_at_call 16; refine (HQ.out _).mono ?_; rintro e w' ⟨rfl, dQ, rfl⟩; rw [lay_bw]) | (go_at_call 25; refine (HTp.out _).mono ?_; rintro e w' ⟨rfl, dC, rfl⟩; rw [lay_bw]))
        go_ret
        exact ⟨rfl, lay_ex _ _⟩
    · obtain ⟨-, hu, hvx⟩ := pt_plc hq
      rw [hq] at HQ
      cases dk
      · have hS3 : ∀ n m, siS lp ls s u x n m = -1 ∨ siS lp ls s u x n m = 0 ∨ siS lp ls s u x n m = 1 := fun n m => sdI_in _ _ _
        have hEall := siE_all (lp := lp) (ls := ls) (s := s) hvx (show f ≤ f + 86400000 by omega) (show f + 86400000 - f ≤ 86400000 by omega)
        have hsz := whR_sz (lp := lp) (ls := ls) (s := s) (f := f) hk.ok
        have HWm := made_Where hB hk
        have HC := Lib.hid (fun L => hz_RiseSet (whR lp ls s f f).1 (whR lp ls s f f).2 (siS lp ls s u x) (siE lp ls s x) bk s u x f (lay _ L) (Lib.hid (fun L' => by rw [← lay_appG]; exact HWm.out s f f (L' ++ L))) (fun n => WSide.on (fun t L => hz_wside hB hk s u x n t hu L) L) hq hsz hS3 hEall)
        have HR := Lib.hid (fun L => r50_RiseSet (whR lp ls s f f).1 (whR lp ls s f f).2 (siS lp ls s u x) (siE lp ls s x) _ _ s u x f (lay w L) (Lib.hid (fun L' => ref17_Where _ _ lp ls s f f (lay (lay w L) L') ((HRf0.out hk L).lay L'))) (fun n t L' => r50_side _ _ lp ls s u x n t (lay (lay w L) L') ((HRf0.out hk L).lay L') hk hu) hsz hS3)
        simp only [← lay_appG] at HC
        unfold rsV at HC HR
        generalize rsF (whR lp ls s f f).1 (whR lp ls s f f).2 (siS lp ls s u x) (siE lp ls s x) f = RR at *
        obtain ⟨A, B, C, D, EE⟩ := RR
        dsimp only at HC HR
        have q0 : (A == A) = true := beq_self_eq_true _
        have q1 : (B == B) = true := beq_self_eq_true _
        have q2 : (C == C) = true := beq_self_eq_true _
        have q3 : (D == D) = true := beq_self_eq_true _
        have q4 : (EE == EE) = true := beq_self_eq_true _
        clear hB hE HM HAw HRf0 hq HRn HTn hS3 hk hEall hsz HWm hu hvx
        go_wp2_with fail
        refine (HC.out [_]).mono ?_
        rintro e w' ⟨rfl, d5, rfl⟩
        simp only [List.cons_append, List.nil_append, lay_bw]
        clear HC
        go_wp2_with (first | (go_at_call 16; refine (HQ.out _).mono ?_; rintro e w' ⟨rfl, dQ, rfl⟩; rw [lay_bw]) | (go_at_call 28; refine (HR.out _).mono ?_; rintro e w' ⟨rfl, d6, rfl⟩; rw [lay_bw]))
        go_ret
        exact ⟨rfl, lay_ex _ _⟩
      · have hS3 : ∀ n m, siS lp ls ⟨#[83, 117, 110]⟩ u x n m = -1 ∨ siS lp ls ⟨#[83, 117, 110]⟩ u x n m = 0 ∨ siS lp ls ⟨#[83, 117, 110]⟩ u x n m = 1 := fun n m => sdI_in _ _ _
        have hEall := siE_all (lp := lp) (ls := ls) (s := ⟨#[83, 117, 110]⟩) hvx (show f ≤ f + 86400000 by omega) (show f + 86400000 - f ≤ 86400000 by omega)
        have HC := Lib.hid (fun L => hz_Twilight (siS lp ls ⟨#[83, 117, 110]⟩ u x) (siE lp ls ⟨#[83, 117, 110]⟩ x) bk u x f (lay _ L) (fun n => WSide.on (fun t L => hz_wside hB hk ⟨#[83, 117, 110]⟩ u x n t hu L) L) hq hS3 hEall)
        have HR := Lib.hid (fun L => r50_Twilight (siS lp ls ⟨#[83, 117, 110]⟩ u x) (siE lp ls ⟨#[83, 117, 110]⟩ x) _ _ u x f (lay w L) (fun n t L' => r50_side _ _ lp ls ⟨#[83, 117, 110]⟩ u x n t (lay (lay w L) L') ((HRf0.out hk L).lay L') hk hu) hS3)
        simp only [← lay_appG] at HC
        unfold TwPost at HC HR
        have hLl := twL_len (crF (siS lp ls ⟨#[83, 117, 110]⟩ u x (-360000)) (smp f (f + 86400000)) 0 0) (crF (siS lp ls ⟨#[83, 117, 110]⟩ u x (-720000)) (smp f (f + 86400000)) 0 0) (crF (siS lp ls ⟨#[83, 117, 110]⟩ u x (-1080000)) (smp f (f + 86400000)) 0 0)
        generalize twL (crF (siS lp ls ⟨#[83, 117, 110]⟩ u x (-360000)) (smp f (f + 86400000)) 0 0) (crF (siS lp ls ⟨#[83, 117, 110]⟩ u x (-720000)) (smp f (f + 86400000)) 0 0) (crF (siS lp ls ⟨#[83, 117, 110]⟩ u x (-1080000)) (smp f (f + 86400000)) 0 0) = l at *
        generalize twE (siS lp ls ⟨#[83, 117, 110]⟩ u x) (siE lp ls ⟨#[83, 117, 110]⟩ x) f = EX at *
        have HLl := Lib.hid hLl
        clear hB hE HM HAw HRf0 hq HRn HTn hS3 hk hEall hu hvx hLl
        go_wp2_with fail
        refine (HC.out [_]).mono ?_
        rintro e w' ⟨⟨d5, rfl⟩, hcase⟩
        simp only [List.cons_append, List.nil_append, lay_bw] at hcase ⊢
        rcases hcase with ⟨her, rfl⟩ | ⟨her, v, rfl, hv⟩
        · have e1 : (EX != 0) = true := by simpa using her
          have e2 : (EX == 0) = false := beq_eq_false_iff_ne.2 her
          have e3 : (EX == EX) = true := beq_self_eq_true _
          have HER := Lib.hid her
          clear HC her
          go_wp2_with (first | (go_at_call 16; refine (HQ.out _).mono ?_; rintro e w' ⟨rfl, dQ, rfl⟩; rw [lay_bw]))
          refine (HR.out _).mono ?_
          rintro e w' ⟨⟨d6, rfl⟩, hcase⟩
          rcases hcase with ⟨-, rfl⟩ | ⟨her2, -⟩
          · rw [lay_bw]
            clear HR
            go_wp2_with (go_at_call 27; refine (tm_EqualNil _).mono ?_; rintro e w' ⟨rfl, d7, rfl⟩; rw [lay_bw])
            go_ret
            exact ⟨rfl, lay_ex _ _⟩
          · exact absurd her2 HER.out
        · subst her
          have HV := Lib.hid hv
          clear HC hv
          go_wp2_with (first | (go_at_call 16; refine (HQ.out _).mono ?_; rintro e w' ⟨rfl, dQ, rfl⟩; rw [lay_bw]))
          refine (HR.out _).mono ?_
          rintro e w' ⟨⟨d6, rfl⟩, hcase⟩
          rcases hcase with ⟨her2, -⟩ | ⟨-, v2, rfl, hv2⟩
          · exact absurd rfl her2
          · rw [lay_bw] at hv2 ⊢
            have HV2 := Lib.hid hv2
            clear HR hv2
            go_wp2_with fail
            refine (tm_Equal v v2 l _ (tmC_on (A := [_, _]) HV.out) HV2.out HLl.out).mono ?_
            rintro e w' ⟨rfl, d7, rfl⟩
            rw [lay_bw]
            go_wp2_with fail
            go_ret
            exact ⟨rfl, lay_ex _ _⟩
end Go.Proofs.YthjfadfebhjhbaaGreat

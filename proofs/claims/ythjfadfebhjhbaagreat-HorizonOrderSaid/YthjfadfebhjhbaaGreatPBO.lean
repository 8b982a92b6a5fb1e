/- Contracts and plain laws, several texts in one: Hz8 -/
import Derived.Test.YthjfadfebhjhbaaGreatProg
import Derived.WalkKit
import Derived.WalkSpells
import Derived.WalkLawsBesides
import Derived.Lib.Hide
import Derived.BigQuiet
import Derived.Test.YthjfadfebhjhbaaGreatPAA
import Derived.Test.YthjfadfebhjhbaaGreatPAB
import Derived.Test.YthjfadfebhjhbaaGreatPAO
import Derived.Test.YthjfadfebhjhbaaGreatPAY
import Derived.Test.YthjfadfebhjhbaaGreatPBN
/- The laws HorizonSides and HorizonOrder. -/
namespace Go.Proofs.YthjfadfebhjhbaaGreat
open Go.RowKit Go.Shelf

theorem plcR_lat {u v x y : Int} (h : plcR u v x y = true) : latB u v = true ∧ ptB u x = true := by
  unfold plcR at h
  rw [Bool.and_eq_true] at h
  have h1 := latB_iff.1 h.1
  have h2 := of_decide_eq_true h.2
  exact ⟨h.1, ptB_iff.2 (by omega)⟩
/-- The ways of Above. -/
theorem ab_cases (lp : List PgV) (ls : List StarV) (s : ByteArray) (a b u v x y : Int) :
    (timB a b = false ∧ abE lp ls s a b u v x y = 1 ∧ abN lp ls s a b u v x y = 0) ∨ (timB a b = true ∧ plcR u v x y = false ∧ abE lp ls s a b u v x y = 1 ∧ abN lp ls s a b u v x y = 0) ∨
    (timB a b = true ∧ plcR u v x y = true ∧ lhaE lp ls s a b x y ≠ 0 ∧ abE lp ls s a b u v x y = lhaE lp ls s a b x y ∧ abN lp ls s a b u v x y = 0) ∨
    (timB a b = true ∧ plcR u v x y = true ∧ lhaE lp ls s a b x y = 0 ∧ abE lp ls s a b u v x y = 0 ∧ abN lp ls s a b u v x y = sdI (hzL lp ls s a b u v x y) (hzH lp ls s a b u v x y) 0) := by
  cases h1 : timB a b
  · have e : abE lp ls s a b u v x y = 1 := by unfold abE; rw [if_neg (by rw [h1]; simp)]
    exact .inl ⟨rfl, e, by unfold abN; rw [if_neg (by rw [e]; decide)]⟩
  · cases h2 : plcR u v x y
    · have e : abE lp ls s a b u v x y = 1 := by unfold abE; rw [if_neg (by rw [h2]; simp)]
      exact .inr (.inl ⟨rfl, rfl, e, by unfold abN; rw [if_neg (by rw [e]; decide)]⟩)
    · have e : abE lp ls s a b u v x y = lhaE lp ls s a b x y := by unfold abE; rw [if_pos ⟨h1, h2⟩]
      by_cases h3 : lhaE lp ls s a b x y = 0
      · exact .inr (.inr (.inr ⟨rfl, rfl, h3, e.trans h3, by unfold abN; rw [if_pos (e.trans h3)]⟩))
      · exact .inr (.inr (.inl ⟨rfl, rfl, h3, e, by unfold abN; rw [if_neg (by rw [e]; exact h3)]⟩))
set_option maxHeartbeats 8000000 in
set_option maxRecDepth 100000 in
theorem law50_Sides (vp : Value) (lp : List PgV) {w : World} (hp : PgsD (InB w) w vp lp) (vs : Value) (ls : List StarV) (hv : SlG stR w vs ls) (s : ByteArray) (_ : s.size ≤ maxLen) (a b : Int) (_ : (Lit.int .i64 a).wf = true) (_ : (Lit.int .i64 b).wf = true) (u v : Int) (_ : (Lit.int .i64 u).wf = true) (_ : (Lit.int .i64 v).wf = true) (x y : Int) (_ : (Lit.int .i64 x).wf = true) (_ : (Lit.int .i64 y).wf = true) (q1 q2 : Int) (_ : (Lit.int .i64 q1).wf = true) (_ : (Lit.int .i64 q2).wf = true) (t : Int) (_ : (Lit.int .i64 t).wf = true) :
    Calls Tryz.prog 3 #[vp, vs, .string s, (.agg #[.int .i64 (a), .int .i64 (b)]), (.agg #[.int .i64 (u), .int .i64 (v), .int .i64 (x), .int .i64 (y)]), (.agg #[.int .i64 (q1), .int .i64 (q2)]), .int .i64 t] w fun e w' => e = .returned (.bool true) ∧ ∃ d, w' = bw w d := by
  have HAw := Lib.hid (fun W => law50_awake W)
  have HM := Lib.hid (fun L => law50_made vp vs lp ls s (lay w L) (hp.lay L) (inB_lay L) (hv.lay L))
  have HRA := Lib.hid (fun k hu L => r50_Altitude vp vs lp ls s a b u v x y (lay w L) ((rfL_of hp hv k).lay L) k hu)
  have HRP := Lib.hid (fun k hq L => r50_Phase vp vs lp ls q1 q2 t (lay w L) ((rfL_of hp hv k).lay L) k hq)
  have HT := Lib.hid (fun W => ref10_Valid a b W)
  have HPl := Lib.hid (fun W => r8_Valid u v x y W)
  have HQ := Lib.hid (fun W => r50_Valid q1 q2 W)
  have HAn := Lib.hid (fun W => hz_Above_nil s a b u v x y W)
  have HPn := Lib.hid (fun W => hz_Phase_nil q1 q2 t W)
  obtain ⟨pa, pc, rfl⟩ := pgs_form hp
  obtain ⟨sa, sc, rfl⟩ := hv.form
  generalize ls.length = m at *
  generalize lp.length = n at *
  clear hp hv
  refine lay_start ?_
  go_enter Tryz.func3, Tryz.ntmps3
  go_wp2_with (first | (go_at_call 8; refine (HAw.out _).mono ?_; rintro e w' ⟨rfl, d1, rfl⟩; rw [lay_bw]) | (go_at_call 9; refine (HAn.out _).mono ?_; rintro e w' ⟨rfl, d2, rfl⟩; rw [lay_bw]) | (go_at_call 10; refine (HPn.out _).mono ?_; rintro e w' ⟨rfl, d3, rfl⟩; rw [lay_bw]))
  refine (HM.out _).mono ?_
  rintro e w' hm
  rcases hm with ⟨rfl, d4, rfl⟩ | ⟨hE, bk, w1, d4, rfl, rfl, hB⟩
  · rw [lay_bw]
    go_wp2_with fail
    go_ret
    exact ⟨rfl, lay_ex _ _⟩
  · have hk := newE_0 hE
    have HAb := Lib.hid (fun L => made_Above hB hk s a b u v x y L)
    have HPh := Lib.hid (fun L => made_Phase hB hk q1 q2 t L)
    have HRA1 := Lib.hid (fun hu L => HRA.out hk hu L)
    have HRP1 := Lib.hid (fun hq L => HRP.out hk hq L)
    clear hB hk hE HM HRA HRP HAw HAn HPn
    rw [lay_bw] at HAb HPh ⊢
    simp only [← lay_appG] at HAb HPh
    cases hq : ptB q1 q2
    · have e3 : phR lp ls q1 q2 t = (0, 1) := by unfold phR; rw [if_pos hq]
      rw [e3] at HPh
      rw [hq] at HQ
      clear e3 hq HRP1
      rcases ab_cases lp ls s a b u v x y with ⟨ht, e1, e2⟩ | ⟨ht, hp, e1, e2⟩ | ⟨ht, hp, h0, e1, e2⟩ | ⟨ht, hp, h0, e1, e2⟩
      · rw [e1, e2] at HAb
        rw [ht] at HT
        clear e1 e2 ht HRA1 HPl
        go_wp2_with fail
        refine (HAb.out [_]).mono ?_
        rintro e w' ⟨rfl, d5, rfl⟩
        rw [lay_bw]
        go_wp2_with (first | (go_at_call 12; refine (HT.out _).mono ?_; rintro e w' ⟨rfl, dT, rfl⟩; rw [lay_bw]))
        (first | (refine (HPh.out [_]).mono ?_) | (refine (HPh.out [_, _]).mono ?_) | (refine (HPh.out [_, _, _]).mono ?_) | (refine (HPh.out [_, _, _, _]).mono ?_) | (refine (HPh.out [_, _, _, _, _]).mono ?_) | (refine (HPh.out [_, _, _, _, _, _]).mono ?_) | (refine (HPh.out [_, _, _, _, _, _, _]).mono ?_) | (refine (HPh.out [_, _, _, _, _, _, _, _]).mono ?_))
        rintro e w' ⟨rfl, d6, rfl⟩
        rw [lay_bw]
        go_wp2_with (first | (go_at_call 16; refine (HQ.out _).mono ?_; rintro e w' ⟨rfl, dQ, rfl⟩; rw [lay_bw]))
        go_ret
        exact ⟨rfl, lay_ex _ _⟩
      · rw [e1, e2] at HAb
        rw [ht] at HT
        rw [hp] at HPl
        clear e1 e2 ht hp HRA1
        go_wp2_with fail
        refine (HAb.out [_]).mono ?_
        rintro e w' ⟨rfl, d5, rfl⟩
        rw [lay_bw]
        go_wp2_with (first | (go_at_call 12; refine (HT.out _).mono ?_; rintro e w' ⟨rfl, dT, rfl⟩; rw [lay_bw]) | (go_at_call 13; refine (HPl.out _).mono ?_; rintro e w' ⟨rfl, dP, rfl⟩; rw [lay_bw]))
        (first | (refine (HPh.out [_]).mono ?_) | (refine (HPh.out [_, _]).mono ?_) | (refine (HPh.out [_, _, _]).mono ?_) | (refine (HPh.out [_, _, _, _]).mono ?_) | (refine (HPh.out [_, _, _, _, _]).mono ?_) | (refine (HPh.out [_, _, _, _, _, _]).mono ?_) | (refine (HPh.out [_, _, _, _, _, _, _]).mono ?_) | (refine (HPh.out [_, _, _, _, _, _, _, _]).mono ?_))
        rintro e w' ⟨rfl, d6, rfl⟩
        rw [lay_bw]
        go_wp2_with (first | (go_at_call 16; refine (HQ.out _).mono ?_; rintro e w' ⟨rfl, dQ, rfl⟩; rw [lay_bw]))
        go_ret
        exact ⟨rfl, lay_ex _ _⟩
      · rw [e1, e2] at HAb
        rw [ht] at HT
        have HRA2 := Lib.hid (fun L => HRA1.out (plcR_lat hp).1 L)
        rw [hp] at HPl
        generalize lhaE lp ls s a b x y = E at *
        generalize hzL lp ls s a b u v x y = zl at *
        generalize hzH lp ls s a b u v x y = zh at *
        have g1 : (E != 0) = true := by simpa using h0
        have g2 : (E == 0) = false := beq_eq_false_iff_ne.2 h0
        clear e1 e2 ht hp HRA1
        go_wp2_with fail
        refine (HAb.out [_]).mono ?_
        rintro e w' ⟨rfl, d5, rfl⟩
        rw [lay_bw]
        go_wp2_with (first | (go_at_call 12; refine (HT.out _).mono ?_; rintro e w' ⟨rfl, dT, rfl⟩; rw [lay_bw]) | (go_at_call 13; refine (HPl.out _).mono ?_; rintro e w' ⟨rfl, dP, rfl⟩; rw [lay_bw]) | (go_at_call 14; refine (HRA2.out _).mono ?_; rintro e w' ⟨rfl, dA, rfl⟩; rw [lay_bw]))
        (first | (refine (HPh.out [_]).mono ?_) | (refine (HPh.out [_, _]).mono ?_) | (refine (HPh.out [_, _, _]).mono ?_) | (refine (HPh.out [_, _, _, _]).mono ?_) | (refine (HPh.out [_, _, _, _, _]).mono ?_) | (refine (HPh.out [_, _, _, _, _, _]).mono ?_) | (refine (HPh.out [_, _, _, _, _, _, _]).mono ?_) | (refine (HPh.out [_, _, _, _, _, _, _, _]).mono ?_))
        rintro e w' ⟨rfl, d6, rfl⟩
        rw [lay_bw]
        go_wp2_with (first | (go_at_call 16; refine (HQ.out _).mono ?_; rintro e w' ⟨rfl, dQ, rfl⟩; rw [lay_bw]))
        go_ret
        exact ⟨rfl, lay_ex _ _⟩
      · rw [e1, e2] at HAb
        rw [ht] at HT
        have HRA2 := Lib.hid (fun L => HRA1.out (plcR_lat hp).1 L)
        rw [hp] at HPl
        rw [h0] at HRA2
        have HSd := Lib.hid (fun W => r50_Side (hzL lp ls s a b u v x y) (hzH lp ls s a b u v x y) 0 W)
        generalize hzL lp ls s a b u v x y = zl at *
        generalize hzH lp ls s a b u v x y = zh at *
        generalize sdI zl zh 0 = D at *
        clear e1 e2 ht hp h0 HRA1
        go_wp2_with fail
        refine (HAb.out [_]).mono ?_
        rintro e w' ⟨rfl, d5, rfl⟩
        rw [lay_bw]
        go_wp2_with (first | (go_at_call 12; refine (HT.out _).mono ?_; rintro e w' ⟨rfl, dT, rfl⟩; rw [lay_bw]) | (go_at_call 13; refine (HPl.out _).mono ?_; rintro e w' ⟨rfl, dP, rfl⟩; rw [lay_bw]) | (go_at_call 14; refine (HRA2.out _).mono ?_; rintro e w' ⟨rfl, dA, rfl⟩; rw [lay_bw]) | (go_at_call 15; refine (HSd.out _).mono ?_; rintro e w' ⟨rfl, dS, rfl⟩; rw [lay_bw]))
        (first | (refine (HPh.out [_]).mono ?_) | (refine (HPh.out [_, _]).mono ?_) | (refine (HPh.out [_, _, _]).mono ?_) | (refine (HPh.out [_, _, _, _]).mono ?_) | (refine (HPh.out [_, _, _, _, _]).mono ?_) | (refine (HPh.out [_, _, _, _, _, _]).mono ?_) | (refine (HPh.out [_, _, _, _, _, _, _]).mono ?_) | (refine (HPh.out [_, _, _, _, _, _, _, _]).mono ?_))
        rintro e w' ⟨rfl, d6, rfl⟩
        rw [lay_bw]
        go_wp2_with (first | (go_at_call 16; refine (HQ.out _).mono ?_; rintro e w' ⟨rfl, dQ, rfl⟩; rw [lay_bw]))
        go_ret
        exact ⟨rfl, lay_ex _ _⟩
    · have HRP2 := Lib.hid (fun L => HRP1.out hq L)
      rw [hq] at HQ
      clear hq HRP1
      generalize (phR lp ls q1 q2 t).1 = N at *
      generalize (phR lp ls q1 q2 t).2 = G at *
      rcases ab_cases lp ls s a b u v x y with ⟨ht, e1, e2⟩ | ⟨ht, hp, e1, e2⟩ | ⟨ht, hp, h0, e1, e2⟩ | ⟨ht, hp, h0, e1, e2⟩
      · rw [e1, e2] at HAb
        rw [ht] at HT
        clear e1 e2 ht HRA1 HPl
        go_wp2_with fail
        refine (HAb.out [_]).mono ?_
        rintro e w' ⟨rfl, d5, rfl⟩
        rw [lay_bw]
        go_wp2_with (first | (go_at_call 12; refine (HT.out _).mono ?_; rintro e w' ⟨rfl, dT, rfl⟩; rw [lay_bw]))
        (first | (refine (HPh.out [_]).mono ?_) | (refine (HPh.out [_, _]).mono ?_) | (refine (HPh.out [_, _, _]).mono ?_) | (refine (HPh.out [_, _, _, _]).mono ?_) | (refine (HPh.out [_, _, _, _, _]).mono ?_) | (refine (HPh.out [_, _, _, _, _, _]).mono ?_) | (refine (HPh.out [_, _, _, _, _, _, _]).mono ?_) | (refine (HPh.out [_, _, _, _, _, _, _, _]).mono ?_))
        rintro e w' ⟨rfl, d6, rfl⟩
        rw [lay_bw]
        go_wp2_with (first | (go_at_call 16; refine (HQ.out _).mono ?_; rintro e w' ⟨rfl, dQ, rfl⟩; rw [lay_bw]) | (go_at_call 17; refine (HRP2.out _).mono ?_; rintro e w' ⟨rfl, dR, rfl⟩; rw [lay_bw]))
        go_ret
        exact ⟨rfl, lay_ex _ _⟩
      · rw [e1, e2] at HAb
        rw [ht] at HT
        rw [hp] at HPl
        clear e1 e2 ht hp HRA1
        go_wp2_with fail
        refine (HAb.out [_]).mono ?_
        rintro e w' ⟨rfl, d5, rfl⟩
        rw [lay_bw]
        go_wp2_with (first | (go_at_call 12; refine (HT.out _).mono ?_; rintro e w' ⟨rfl, dT, rfl⟩; rw [lay_bw]) | (go_at_call 13; refine (HPl.out _).mono ?_; rintro e w' ⟨rfl, dP, rfl⟩; rw [lay_bw]))
        (first | (refine (HPh.out [_]).mono ?_) | (refine (HPh.out [_, _]).mono ?_) | (refine (HPh.out [_, _, _]).mono ?_) | (refine (HPh.out [_, _, _, _]).mono ?_) | (refine (HPh.out [_, _, _, _, _]).mono ?_) | (refine (HPh.out [_, _, _, _, _, _]).mono ?_) | (refine (HPh.out [_, _, _, _, _, _, _]).mono ?_) | (refine (HPh.out [_, _, _, _, _, _, _, _]).mono ?_))
        rintro e w' ⟨rfl, d6, rfl⟩
        rw [lay_bw]
        go_wp2_with (first | (go_at_call 16; refine (HQ.out _).mono ?_; rintro e w' ⟨rfl, dQ, rfl⟩; rw [lay_bw]) | (go_at_call 17; refine (HRP2.out _).mono ?_; rintro e w' ⟨rfl, dR, rfl⟩; rw [lay_bw]))
        go_ret
        exact ⟨rfl, lay_ex _ _⟩
      · rw [e1, e2] at HAb
        rw [ht] at HT
        have HRA2 := Lib.hid (fun L => HRA1.out (plcR_lat hp).1 L)
        rw [hp] at HPl
        generalize lhaE lp ls s a b x y = E at *
        generalize hzL lp ls s a b u v x y = zl at *
        generalize hzH lp ls s a b u v x y = zh at *
        have g1 : (E != 0) = true := by simpa using h0
        have g2 : (E == 0) = false := beq_eq_false_iff_ne.2 h0
        clear e1 e2 ht hp HRA1
        go_wp2_with fail
        refine (HAb.out [_]).mono ?_
        rintro e w' ⟨rfl, d5, rfl⟩
        rw [lay_bw]
        go_wp2_with (first | (go_at_call 12; refine (HT.out _).mono ?_; rintro e w' ⟨rfl, dT, rfl⟩; rw [lay_bw]) | (go_at_call 13; refine (HPl.out _).mono ?_; rintro e w' ⟨rfl, dP, rfl⟩; rw [lay_bw]) | (go_at_call 14; refine (HRA2.out _).mono ?_; rintro e w' ⟨rfl, dA, rfl⟩; rw [lay_bw]))
        (first | (refine (HPh.out [_]).mono ?_) | (refine (HPh.out [_, _]).mono ?_) | (refine (HPh.out [_, _, _]).mono ?_) | (refine (HPh.out [_, _, _, _]).mono ?_) | (refine (HPh.out [_, _, _, _, _]).mono ?_) | (refine (HPh.out [_, _, _, _, _, _]).mono ?_) | (refine (HPh.out [_, _, _, _, _, _, _]).mono ?_) | (refine (HPh.out [_, _, _, _, _, _, _, _]).mono ?_))
        rintro e w' ⟨rfl, d6, rfl⟩
        rw [lay_bw]
        go_wp2_with (first | (go_at_call 16; refine (HQ.out _).mono ?_; rintro e w' ⟨rfl, dQ, rfl⟩; rw [lay_bw]) | (go_at_call 17; refine (HRP2.out _).mono ?_; rintro e w' ⟨rfl, dR, rfl⟩; rw [lay_bw]))
        go_ret
        exact ⟨rfl, lay_ex _ _⟩
      · rw [e1, e2] at HAb
        rw [ht] at HT
        have HRA2 := Lib.hid (fun L => HRA1.out (plcR_lat hp).1 L)
        rw [hp] at HPl
        rw [h0] at HRA2
        have HSd := Lib.hid (fun W => r50_Side (hzL lp ls s a b u v x y) (hzH lp ls s a b u v x y) 0 W)
        generalize hzL lp ls s a b u v x y = zl at *
        generalize hzH lp ls s a b u v x y = zh at *
        generalize sdI zl zh 0 = D at *
        clear e1 e2 ht hp h0 HRA1
        go_wp2_with fail
        refine (HAb.out [_]).mono ?_
        rintro e w' ⟨rfl, d5, rfl⟩
        rw [lay_bw]
        go_wp2_with (first | (go_at_call 12; refine (HT.out _).mono ?_; rintro e w' ⟨rfl, dT, rfl⟩; rw [lay_bw]) | (go_at_call 13; refine (HPl.out _).mono ?_; rintro e w' ⟨rfl, dP, rfl⟩; rw [lay_bw]) | (go_at_call 14; refine (HRA2.out _).mono ?_; rintro e w' ⟨rfl, dA, rfl⟩; rw [lay_bw]) | (go_at_call 15; refine (HSd.out _).mono ?_; rintro e w' ⟨rfl, dS, rfl⟩; rw [lay_bw]))
        (first | (refine (HPh.out [_]).mono ?_) | (refine (HPh.out [_, _]).mono ?_) | (refine (HPh.out [_, _, _]).mono ?_) | (refine (HPh.out [_, _, _, _]).mono ?_) | (refine (HPh.out [_, _, _, _, _]).mono ?_) | (refine (HPh.out [_, _, _, _, _, _]).mono ?_) | (refine (HPh.out [_, _, _, _, _, _, _]).mono ?_) | (refine (HPh.out [_, _, _, _, _, _, _, _]).mono ?_))
        rintro e w' ⟨rfl, d6, rfl⟩
        rw [lay_bw]
        go_wp2_with (first | (go_at_call 16; refine (HQ.out _).mono ?_; rintro e w' ⟨rfl, dQ, rfl⟩; rw [lay_bw]) | (go_at_call 17; refine (HRP2.out _).mono ?_; rintro e w' ⟨rfl, dR, rfl⟩; rw [lay_bw]))
        go_ret
        exact ⟨rfl, lay_ex _ _⟩
end Go.Proofs.YthjfadfebhjhbaaGreat

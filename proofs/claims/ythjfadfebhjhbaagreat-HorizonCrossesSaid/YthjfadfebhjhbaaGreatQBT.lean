/- Contracts and plain laws, several texts in one: HzM; HzN -/
import Derived.Test.YthjfadfebhjhbaaGreatProg
import Derived.WalkKit
import Derived.WalkSpells
import Derived.WalkLawsBesides
import Derived.Lib.Hide
import Derived.BigQuiet
import Derived.Test.YthjfadfebhjhbaaGreatQAA
import Derived.Test.YthjfadfebhjhbaaGreatQAB
import Derived.Test.YthjfadfebhjhbaaGreatQBP
import Derived.Test.YthjfadfebhjhbaaGreatQBQ
import Derived.Test.YthjfadfebhjhbaaGreatQBR
import Derived.Test.YthjfadfebhjhbaaGreatQBS
/- Crossings with wrong arguments; EqualFunc of times and crossings. -/
namespace Go.Proofs.YthjfadfebhjhbaaGreat
open Go.RowKit Go.Shelf

set_option maxHeartbeats 1000000 in
theorem hz_here_nil (u x : Int) (w : World) :
    Calls Tryz.prog 36 #[.pointer none, (.agg #[.int .i64 (u), .int .i64 (x)])] w fun e w' => e = .returned (.tuple #[(.agg #[.int .i64 (0), .int .i64 (0), .int .i64 (0), .int .i64 (0)]), .int .i64 1]) ∧ ∃ d, w' = bw w d := by
  refine lay_start ?_
  go_enter Tryz.func36, Tryz.ntmps36
  go_wp2_with fail
  exact bodyPost_ret (v := .tuple #[(.agg #[.int .i64 (0), .int .i64 (0), .int .i64 (0), .int .i64 (0)]), .int .i64 1]) (by simp [results, Tryz.results36, go_sem]) rfl ⟨rfl, lay_ex _ _⟩
set_option maxHeartbeats 1000000 in
theorem hz_Crossings_nil (s : ByteArray) (u x n f t : Int) (w : World) :
    Calls Tryz.prog 20 #[.pointer none, .string s, (.agg #[.int .i64 (u), .int .i64 (x)]), .int .i64 n, .int .i64 f, .int .i64 t] w fun e w' => e = .returned (.tuple #[.slice none 0 0, .int .i64 1]) ∧ ∃ d, w' = bw w d := by
  refine lay_start ?_
  go_enter Tryz.func20, Tryz.ntmps20
  go_wp2_with (go_at_call 36; refine (hz_here_nil _ _ _).mono ?_; rintro e w' ⟨rfl, d1, rfl⟩; rw [lay_bw])
  exact bodyPost_ret (v := .tuple #[.slice none 0 0, .int .i64 1]) (by simp [results, Tryz.results20, go_sem]) rfl ⟨rfl, lay_ex _ _⟩
set_option maxHeartbeats 1000000 in
theorem hz_Crossings_pt (bk : Nat) (s : ByteArray) (u x n f t : Int) (w : World) (hp : ptB u x = false) :
    Calls Tryz.prog 20 #[.pointer (some ⟨bk, 0, none⟩), .string s, (.agg #[.int .i64 (u), .int .i64 (x)]), .int .i64 n, .int .i64 f, .int .i64 t] w fun e w' => e = .returned (.tuple #[.slice none 0 0, .int .i64 1]) ∧ ∃ d, w' = bw w d := by
  have HH := Lib.hid (fun W => hz_here bk u x W)
  rw [hp, if_neg (by decide)] at HH
  clear hp
  refine lay_start ?_
  go_enter Tryz.func20, Tryz.ntmps20
  go_wp2_with (go_at_call 36; refine (HH.out _).mono ?_; rintro e w' ⟨rfl, d1, rfl⟩; rw [lay_bw])
  exact bodyPost_ret (v := .tuple #[.slice none 0 0, .int .i64 1]) (by simp [results, Tryz.results20, go_sem]) rfl ⟨rfl, lay_ex _ _⟩
set_option maxHeartbeats 4000000 in
set_option maxRecDepth 100000 in
theorem hz_Crossings_giv (bk : Nat) (s : ByteArray) (u x n f t : Int) (w : World) (hp : ptB u x = true) (hg : gvnO n f t ≠ 0) :
    Calls Tryz.prog 20 #[.pointer (some ⟨bk, 0, none⟩), .string s, (.agg #[.int .i64 (u), .int .i64 (x)]), .int .i64 n, .int .i64 f, .int .i64 t] w fun e w' => e = .returned (.tuple #[.slice none 0 0, .int .i64 (gvnO n f t)]) ∧ ∃ d, w' = bw w d := by
  have HH := Lib.hid (fun W => hz_here bk u x W)
  rw [hp, if_pos rfl] at HH
  have HA := Lib.hid (fun W => hz_altitudes n W)
  have HI1 := Lib.hid (fun W => hz_instant f W)
  have HI2 := Lib.hid (fun W => hz_instant t W)
  clear hp
  by_cases c1 : n < -5400000 ∨ 5400000 < n
  · have e : gvnO n f t = 2 := if_pos (by rcases c1 with c | c; exact .inl c; exact .inr (.inl c))
    rw [e]
    rw [decide_eq_false (by omega)] at HA
    clear e c1 hg
    refine lay_start ?_
    go_enter Tryz.func20, Tryz.ntmps20
    go_wp2_with (first | (go_at_call 36; refine (HH.out _).mono ?_; rintro e w' ⟨rfl, d1, rfl⟩; rw [lay_bw]) | (go_at_call 49; refine (HA.out _).mono ?_; rintro e w' ⟨rfl, d2, rfl⟩; rw [lay_bw]) | (go_at_call 37; first | ((with_reducible refine (HI1.out _).mono ?_); rintro e w' ⟨rfl, d3, rfl⟩; rw [lay_bw]) | ((with_reducible refine (HI2.out _).mono ?_); rintro e w' ⟨rfl, d4, rfl⟩; rw [lay_bw])))
    all_goals exact bodyPost_ret (v := .tuple #[.slice none 0 0, .int .i64 2]) (by simp [results, Tryz.results20, go_sem]) rfl ⟨rfl, lay_ex _ _⟩
  · rw [decide_eq_true (by omega)] at HA
    cases c3 : insB f
    · have e : gvnO n f t = 2 := if_pos (.inr (.inr (.inl c3)))
      rw [e]
      rw [c3] at HI1
      clear e c3 c1 hg
      refine lay_start ?_
      go_enter Tryz.func20, Tryz.ntmps20
      go_wp2_with (first | (go_at_call 36; refine (HH.out _).mono ?_; rintro e w' ⟨rfl, d1, rfl⟩; rw [lay_bw]) | (go_at_call 49; refine (HA.out _).mono ?_; rintro e w' ⟨rfl, d2, rfl⟩; rw [lay_bw]) | (go_at_call 37; first | ((with_reducible refine (HI1.out _).mono ?_); rintro e w' ⟨rfl, d3, rfl⟩; rw [lay_bw]) | ((with_reducible refine (HI2.out _).mono ?_); rintro e w' ⟨rfl, d4, rfl⟩; rw [lay_bw])))
      all_goals exact bodyPost_ret (v := .tuple #[.slice none 0 0, .int .i64 2]) (by simp [results, Tryz.results20, go_sem]) rfl ⟨rfl, lay_ex _ _⟩
    · rw [c3] at HI1
      cases c4 : insB t
      · have e : gvnO n f t = 2 := if_pos (.inr (.inr (.inr c4)))
        rw [e]
        rw [c4] at HI2
        clear e c3 c4 c1 hg
        refine lay_start ?_
        go_enter Tryz.func20, Tryz.ntmps20
        go_wp2_with (first | (go_at_call 36; refine (HH.out _).mono ?_; rintro e w' ⟨rfl, d1, rfl⟩; rw [lay_bw]) | (go_at_call 49; refine (HA.out _).mono ?_; rintro e w' ⟨rfl, d2, rfl⟩; rw [lay_bw]) | (go_at_call 37; first | ((with_reducible refine (HI1.out _).mono ?_); rintro e w' ⟨rfl, d3, rfl⟩; rw [lay_bw]) | ((with_reducible refine (HI2.out _).mono ?_); rintro e w' ⟨rfl, d4, rfl⟩; rw [lay_bw])))
        all_goals exact bodyPost_ret (v := .tuple #[.slice none 0 0, .int .i64 2]) (by simp [results, Tryz.results20, go_sem]) rfl ⟨rfl, lay_ex _ _⟩
      · rw [c4] at HI2
        have e : gvnO n f t = if t < f then 17 else if 172800000 < t - f then 4 else 0 := if_neg (by rw [c3, c4]; simp; omega)
        have e3 := of_decide_eq_true c3
        have e4 := of_decide_eq_true c4
        have k1 : IntKind.i64.wrap (t - f) = t - f := IntWalk.i64_in _ (by omega)
        rw [e] at hg ⊢
        clear e c3 c4 e3 e4 c1
        by_cases c5 : t < f
        · rw [if_pos c5]
          clear hg
          refine lay_start ?_
          go_enter Tryz.func20, Tryz.ntmps20
          go_wp2_with (first | (go_at_call 36; refine (HH.out _).mono ?_; rintro e w' ⟨rfl, d1, rfl⟩; rw [lay_bw]) | (go_at_call 49; refine (HA.out _).mono ?_; rintro e w' ⟨rfl, d2, rfl⟩; rw [lay_bw]) | (go_at_call 37; first | ((with_reducible refine (HI1.out _).mono ?_); rintro e w' ⟨rfl, d3, rfl⟩; rw [lay_bw]) | ((with_reducible refine (HI2.out _).mono ?_); rintro e w' ⟨rfl, d4, rfl⟩; rw [lay_bw])))
          all_goals exact bodyPost_ret (v := .tuple #[.slice none 0 0, .int .i64 17]) (by simp [results, Tryz.results20, go_sem]) rfl ⟨rfl, lay_ex _ _⟩
        · rw [if_neg c5] at hg ⊢
          by_cases c6 : 172800000 < t - f
          · rw [if_pos c6]
            clear hg
            refine lay_start ?_
            go_enter Tryz.func20, Tryz.ntmps20
            go_wp2_with (first | (go_at_call 36; refine (HH.out _).mono ?_; rintro e w' ⟨rfl, d1, rfl⟩; rw [lay_bw]) | (go_at_call 49; refine (HA.out _).mono ?_; rintro e w' ⟨rfl, d2, rfl⟩; rw [lay_bw]) | (go_at_call 37; first | ((with_reducible refine (HI1.out _).mono ?_); rintro e w' ⟨rfl, d3, rfl⟩; rw [lay_bw]) | ((with_reducible refine (HI2.out _).mono ?_); rintro e w' ⟨rfl, d4, rfl⟩; rw [lay_bw])))
            all_goals exact bodyPost_ret (v := .tuple #[.slice none 0 0, .int .i64 4]) (by simp [results, Tryz.results20, go_sem]) rfl ⟨rfl, lay_ex _ _⟩
          · rw [if_neg c6] at hg
            exact absurd rfl hg
set_option maxHeartbeats 1000000 in
theorem law50_same (a b : Int) (up : Bool) (w : World) :
    Calls Tryz.prog 23 #[(.agg #[.int .i64 (a), .int .i64 (b)]), .agg #[.int .i64 a, .int .i64 b, .bool up]] w fun e w' => e = .returned (.bool true) ∧ ∃ d, w' = bw w d := by
  have e1 : (a == a) = true := beq_self_eq_true a
  have e2 : (b == b) = true := beq_self_eq_true b
  refine lay_start ?_
  go_enter Tryz.func23, Tryz.ntmps23
  go_wp2_with fail
  go_ret
  exact ⟨rfl, lay_ex _ _⟩
set_option maxHeartbeats 4000000 in
set_option maxRecDepth 100000 in
theorem cr_EqualFunc (v1 v2 : Value) (l : List CrV) (w : World) (h1 : SlG tmR w v1 (l.map tmO)) (h2 : SlG rcR w v2 l) (hl : l.length ≤ 145) :
    Calls Tryz.prog 22 #[v1, v2, .func (.func 23) #[] #[]] w fun e w' => e = .returned (.bool true) ∧ ∃ d, w' = bw w d := by
  obtain ⟨va, vc, rfl, hcap1, -, hopen1⟩ := h1
  obtain ⟨ua, uc, rfl, hcap2, -, hopen2⟩ := h2
  rw [List.length_map] at hcap1 ⊢
  obtain ⟨N, hN⟩ : ∃ N, l.length = N := ⟨_, rfl⟩
  rw [hN] at hcap1 hcap2 hl ⊢
  have HR1 : Hid (∀ i c, l[i]? = some c → ∃ b o, va = some ⟨b, o, none⟩ ∧ b < w.heap.size ∧ w.cell? ⟨b, o + i * 2, none⟩ = some (.int .i64 c.lo) ∧ w.cell? ⟨b, o + i * 2 + 1, none⟩ = some (.int .i64 c.hi)) := Lib.hid (fun i c hc => by
    obtain ⟨b, o, e, hb, hr⟩ := hopen1 (by intro h; rw [List.map_eq_nil_iff.1 h] at hc; simp at hc)
    have hc' : (l.map tmO)[i]? = some (tmO c) := by rw [List.getElem?_map, hc]; rfl
    exact ⟨b, o, e, hb, hr i _ hc' 0 _ rfl, hr i _ hc' 1 _ rfl⟩)
  have HR2 : Hid (∀ i c, l[i]? = some c → ∃ b o, ua = some ⟨b, o, none⟩ ∧ b < w.heap.size ∧ w.cell? ⟨b, o + i * 3, none⟩ = some (.int .i64 c.lo) ∧ w.cell? ⟨b, o + i * 3 + 1, none⟩ = some (.int .i64 c.hi) ∧ w.cell? ⟨b, o + i * 3 + 2, none⟩ = some (.bool c.up)) := Lib.hid (fun i c hc => by
    obtain ⟨b, o, e, hb, hr⟩ := hopen2 (by rintro rfl; simp at hc)
    exact ⟨b, o, e, hb, hr i c hc 0 _ rfl, hr i c hc 1 _ rfl, hr i c hc 2 _ rfl⟩)
  clear hopen1 hopen2
  refine lay_start ?_
  go_enter Tryz.func22, Tryz.ntmps22
  go_wp2_with fail
  go_loopw [17] (fun v17 wr => ∃ (i : Nat) (d : Ext), i ≤ N ∧ v17 = .int .i64 (i : Int) ∧ wr = lay w [.inr d]) (fun v17 _ => ((N : Int) - intOf v17).toNat)
  case atStart => exact ⟨0, noExt _, Nat.zero_le _, rfl, (bw_noExt _).symm⟩
  case round =>
    obtain ⟨i, d, hi, rfl, rfl⟩ := hrel
    have kI : IntKind.i64.wrap ((i : Int) + 1) = ((i + 1 : Nat) : Int) := by rw [IntWalk.i64_in _ (by omega)]; omega
    by_cases c : i < N
    · obtain ⟨z, hz⟩ : ∃ z, l[i]? = some z := ⟨_, List.getElem?_eq_getElem (by omega)⟩
      obtain ⟨b1, o1, rfl, hb1, e0, e1⟩ := HR1.out i z hz
      obtain ⟨b2, o2, rfl, hb2, g0, g1, g2⟩ := HR2.out i z hz
      obtain ⟨z0, z1, zu⟩ := z
      dsimp only at e0 e1 g0 g1 g2
      have i0 : (0 : Int) ≤ (i : Int) := by omega
      have i1 : (i : Int) < (N : Int) := by omega
      have HF := Lib.hid (fun W => law50_same z0 z1 zu W)
      clear hz
      go_wp2_with (go_at_call 23; refine (HF.out _).mono ?_; rintro e w' ⟨rfl, d2, rfl⟩; rw [lay_bw])
      go_roundw
      case rel => exact ⟨i + 1, _, by omega, rfl, (lay_ex w _).choose_spec⟩
      case measure => simp [intOf]; omega
    · go_wp2_with fail
      go_ret
      exact ⟨rfl, lay_ex _ _⟩
end Go.Proofs.YthjfadfebhjhbaaGreat
/- The law HorizonCrosses. -/
namespace Go.Proofs.YthjfadfebhjhbaaGreat
open Go.RowKit Go.Shelf

set_option maxHeartbeats 8000000 in
set_option maxRecDepth 100000 in
theorem law50_Crosses (vp : Value) (lp : List PgV) {w : World} (hp : PgsD (InB w) w vp lp) (vs : Value) (ls : List StarV) (hv : SlG stR w vs ls) (s : ByteArray) (_ : s.size ≤ maxLen) (u x : Int) (_ : (Lit.int .i64 u).wf = true) (_ : (Lit.int .i64 x).wf = true) (n : Int) (_ : (Lit.int .i64 n).wf = true) (f : Int) (_ : (Lit.int .i64 f).wf = true) (t : Int) (_ : (Lit.int .i64 t).wf = true) :
    Calls Tryz.prog 6 #[vp, vs, .string s, (.agg #[.int .i64 (u), .int .i64 (x)]), .int .i64 n, .int .i64 f, .int .i64 t] w fun e w' => e = .returned (.bool true) ∧ ∃ d, w' = bw w d := by
  have HAw := Lib.hid (fun W => law50_awake W)
  have HM := Lib.hid (fun L => law50_made vp vs lp ls s (lay w L) (hp.lay L) (inB_lay L) (hv.lay L))
  have HQ := Lib.hid (fun W => r50_Valid u x W)
  have HG := Lib.hid (fun W => r50_Given n f t W)
  have HCn := Lib.hid (fun W => hz_Crossings_nil s u x n f t W)
  have HRf0 := Lib.hid (fun k L => (rfL_of hp hv k).lay L)
  obtain ⟨pa, pc, rfl⟩ := pgs_form hp
  obtain ⟨sa, sc, rfl⟩ := hv.form
  generalize ls.length = m at *
  generalize lp.length = pn at *
  clear hp hv
  refine lay_start ?_
  go_enter Tryz.func6, Tryz.ntmps6
  go_wp2_with (first | (go_at_call 8; refine (HAw.out _).mono ?_; rintro e w' ⟨rfl, d1, rfl⟩; rw [lay_bw]) | (go_at_call 20; refine (HCn.out _).mono ?_; rintro e w' ⟨rfl, d2, rfl⟩; rw [lay_bw]))
  refine (HM.out _).mono ?_
  rintro e w' hm
  rcases hm with ⟨rfl, d4, rfl⟩ | ⟨hE, bk, w1, d4, rfl, rfl, hB⟩
  · rw [lay_bw]
    go_wp2_with fail
    go_ret
    exact ⟨rfl, lay_ex _ _⟩
  · have hk := newE_0 hE
    rw [lay_bw] at hB ⊢
    cases hq : ptB u x
    · have HCb := Lib.hid (fun W => hz_Crossings_pt bk s u x n f t W hq)
      rw [hq] at HQ
      generalize gvnO n f t = GG at *
      clear hB hk hE HM HAw HRf0 hq HCn
      go_wp2_with (first | (go_at_call 16; refine (HQ.out _).mono ?_; rintro e w' ⟨rfl, dQ, rfl⟩; rw [lay_bw]) | (go_at_call 19; refine (HG.out _).mono ?_; rintro e w' ⟨rfl, dG, rfl⟩; rw [lay_bw]) | (go_at_call 20; refine (HCb.out _).mono ?_; rintro e w' ⟨rfl, dC, rfl⟩; rw [lay_bw]))
      all_goals go_ret
      all_goals exact ⟨rfl, lay_ex _ _⟩
    · by_cases hg : gvnO n f t = 0
      · rw [hq] at HQ
        rw [hg] at HG
        obtain ⟨g1, g2, g3, g4, g5, g6, g7⟩ := gvnO_0 hg
        have k1 : IntKind.i64.wrap (t - f) = t - f := IntWalk.i64_in _ (by omega)
        by_cases hd : 86400000 < t - f
        · clear hB hk hE HM HAw HRf0 hq g1 g2 g3 g4 g5 g6 g7 hg HCn
          go_wp2_with (first | (go_at_call 16; refine (HQ.out _).mono ?_; rintro e w' ⟨rfl, dQ, rfl⟩; rw [lay_bw]) | (go_at_call 19; refine (HG.out _).mono ?_; rintro e w' ⟨rfl, dG, rfl⟩; rw [lay_bw]))
          go_ret
          exact ⟨rfl, lay_ex _ _⟩
        · obtain ⟨-, hu, hvx⟩ := pt_plc hq
          have hS3 : ∀ m, siS lp ls s u x n m = -1 ∨ siS lp ls s u x n m = 0 ∨ siS lp ls s u x n m = 1 := fun m => sdI_in _ _ _
          have hEall := siE_all (lp := lp) (ls := ls) (s := s) hvx g2 (show t - f ≤ 86400000 by omega)
          have HC := Lib.hid (fun L => hz_Crossings (siS lp ls s u x n) (siE lp ls s x) bk s u x n f t (lay _ L) (WSide.on (fun t L => hz_wside hB hk s u x n t hu L) L) hq g1 g2 g3 g4 g5 hS3 hEall)
          have HR := Lib.hid (fun L => r50_Crossings (siS lp ls s u x n) (siE lp ls s x) _ _ s u x n f t (lay w L) (fun t L' => r50_side _ _ lp ls s u x n t (lay (lay w L) L') ((HRf0.out hk L).lay L') hk hu) g2 g3 g4 g5 hS3)
          have hlen : (crF (siS lp ls s u x n) (smp f t) 0 0).length ≤ 145 := by
            have h1 := crF_len (siS lp ls s u x n) (smp f t) 0 0
            have h2 := smp_len (f := f) (t := t) 144 (by omega)
            omega
          simp only [← lay_appG] at HC
          unfold CrsPost at HC
          unfold CrRPost at HR
          generalize crF (siS lp ls s u x n) (smp f t) 0 0 = l at *
          clear hB hE HM HAw HRf0 hq g1 g2 g3 g4 g5 g6 g7 hg hEall HCn hS3 hk
          go_wp2_with (first | (go_at_call 16; refine (HQ.out _).mono ?_; rintro e w' ⟨rfl, dQ, rfl⟩; rw [lay_bw]) | (go_at_call 19; refine (HG.out _).mono ?_; rintro e w' ⟨rfl, dG, rfl⟩; rw [lay_bw]))
          refine (HC.out [_, _, _]).mono ?_
          rintro e w' ⟨⟨d5, rfl⟩, hcase⟩
          simp only [List.cons_append, List.nil_append, lay_bw] at hcase ⊢
          rcases hcase with ⟨her, rfl⟩ | ⟨her, v, rfl, hv⟩
          · obtain ⟨EX, hEX⟩ : ∃ EX, erF (siE lp ls s x) (smp f t) = EX := ⟨_, rfl⟩
            rw [hEX] at her HR ⊢
            have e1 : (EX != 0) = true := by simpa using her
            have e2 : (EX == 0) = false := beq_eq_false_iff_ne.2 her
            have HER := Lib.hid her
            clear HC her
            go_wp2_with fail
            refine (HR.out _).mono ?_
            rintro e w' ⟨⟨d6, rfl⟩, hcase⟩
            rcases hcase with ⟨-, rfl⟩ | ⟨her2, -⟩
            · rw [lay_bw]
              clear HR
              go_wp2_with (go_at_call 22; refine (cr_EqualFunc (.slice none 0 0) (.slice none 0 0) [] _ (SlG.nil _ _) (SlG.nil _ _) (by decide)).mono ?_; rintro e w' ⟨rfl, d7, rfl⟩; rw [lay_bw])
              go_ret
              exact ⟨rfl, lay_ex _ _⟩
            · exact absurd her2 HER.out
          · rw [her] at HR
            have HV := Lib.hid hv
            clear HC hv her
            go_wp2_with fail
            refine (HR.out _).mono ?_
            rintro e w' ⟨⟨d6, rfl⟩, hcase⟩
            rcases hcase with ⟨her2, -⟩ | ⟨-, v2, rfl, hv2⟩
            · exact absurd rfl her2
            · rw [lay_bw] at hv2 ⊢
              have HV2 := Lib.hid hv2
              have HLn := Lib.hid hlen
              clear HR hv2 hlen
              go_wp2_with fail
              refine (cr_EqualFunc v v2 l _ (slG_on (A := [_]) HV.out) HV2.out HLn.out).mono ?_
              rintro e w' ⟨rfl, d7, rfl⟩
              rw [lay_bw]
              go_wp2_with fail
              go_ret
              exact ⟨rfl, lay_ex _ _⟩
      · have HCb := Lib.hid (fun W => hz_Crossings_giv bk s u x n f t W hq hg)
        rw [hq] at HQ
        have e1 : (gvnO n f t != 0) = true := by simpa using hg
        have e2 : (gvnO n f t == 0) = false := beq_eq_false_iff_ne.2 hg
        generalize gvnO n f t = GG at *
        clear hB hk hE HM HAw HRf0 hq HCn
        go_wp2_with (first | (go_at_call 16; refine (HQ.out _).mono ?_; rintro e w' ⟨rfl, dQ, rfl⟩; rw [lay_bw]) | (go_at_call 19; refine (HG.out _).mono ?_; rintro e w' ⟨rfl, dG, rfl⟩; rw [lay_bw]) | (go_at_call 20; refine (HCb.out _).mono ?_; rintro e w' ⟨rfl, dC, rfl⟩; rw [lay_bw]))
        all_goals go_ret
        all_goals exact ⟨rfl, lay_ex _ _⟩
end Go.Proofs.YthjfadfebhjhbaaGreat

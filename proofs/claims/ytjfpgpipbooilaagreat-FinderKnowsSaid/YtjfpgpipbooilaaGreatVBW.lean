/- Contracts and plain laws, several texts in one: Fe1; Fe2; FeP; FeQ; FeU -/
import Derived.Test.YtjfpgpipbooilaaGreatProg
import Derived.WalkKit
import Derived.WalkSpells
import Derived.WalkLawsBesides
import Derived.Lib.Hide
import Derived.BigQuiet
import Derived.Test.YtjfpgpipbooilaaGreatVAA
import Derived.Test.YtjfpgpipbooilaaGreatVAB
import Derived.Test.YtjfpgpipbooilaaGreatVAP
import Derived.Test.YtjfpgpipbooilaaGreatVAX
import Derived.Test.YtjfpgpipbooilaaGreatVBK
import Derived.Test.YtjfpgpipbooilaaGreatVBT
import Derived.Test.YtjfpgpipbooilaaGreatVBU
import Derived.Test.YtjfpgpipbooilaaGreatVBV
/- The large and the book of the law of chapter 51. -/
namespace Go.Proofs.YtjfpgpipbooilaaGreat
set_option maxHeartbeats 2000000
open Go.RowKit Go.Shelf

theorem law51_large2 (x : StarV) (w : World) :
    Calls Tryz.prog 66 #[.agg #[.string x.s, .int .i64 x.sha, .int .i64 x.dec, .int .i64 x.mag]] w fun e w' => e = .returned (.bool (decide ((100 : Int) < (x.s.size : Int)))) ∧ ∃ d, w' = bw w d := by
  obtain ⟨xs, x1, x2, x3⟩ := x
  dsimp only
  refine lay_start ?_
  go_enter Tryz.func66, Tryz.ntmps66
  go_wp2
  go_ret
  exact ⟨rfl, lay_ex _ _⟩
theorem law51_large11 {P : Nat → Prop} (x : TkW) (t : TrkV) (w : World) (h : TkD P w x t) :
    Calls Tryz.prog 65 #[.agg #[.string x.s, .slice x.ga x.gn x.gc, .slice x.da x.dn x.dc, .int .i64 x.p, .int .i64 x.q, .int .i64 x.r]] w fun e w' => e = .returned (.bool (lgT t)) ∧ ∃ d, w' = bw w d := by
  obtain ⟨h1, h2⟩ := tkD_len h
  have h3 := h.s
  unfold lgT
  rw [← h1, ← h2, ← h3]
  clear h h1 h2 h3
  obtain ⟨xs, ga, gn, gc, da, dn, dc, xp, xq, xr⟩ := x
  dsimp only
  by_cases a1 : (100 : Int) < (xs.size : Int)
  · rw [decide_eq_true a1]
    refine lay_start ?_
    go_enter Tryz.func65, Tryz.ntmps65
    go_wp2
    go_ret
    exact ⟨rfl, lay_ex _ _⟩
  · rw [decide_eq_false a1]
    by_cases a2 : (40 : Int) < (gn : Int)
    · rw [decide_eq_true a2]
      refine lay_start ?_
      go_enter Tryz.func65, Tryz.ntmps65
      go_wp2
      go_ret
      exact ⟨rfl, lay_ex _ _⟩
    · rw [decide_eq_false a2]
      refine lay_start ?_
      go_enter Tryz.func65, Tryz.ntmps65
      go_wp2
      go_ret
      exact ⟨by simp, lay_ex _ _⟩
theorem tks_large51 {P : Nat → Prop} (v : Value) (l : List TrkV) (w : World) (hv : TksD P w v l) :
    Calls Tryz.prog 64 #[v, .func (.func 65) #[] #[]] w fun e w' => e = .returned (.bool (l.any lgT)) ∧ ∃ d, w' = bw w d := by
  obtain ⟨ls, p, h1, h2, h3⟩ := tk_lift hv lgT
  rw [← h2]
  have eI : ∀ args w, (callFunc 65 args).run Tryz.prog w = .ok (.enter 65 args) w := enters_of Tryz.func65 (by kernel_rfl) rfl
  refine tk_ContainsFunc 65 [] p v ls w h1 eI fun x hx d => ?_
  obtain ⟨t, _, ht, e⟩ := h3 x hx
  rw [e]
  exact (law51_large11 (P := P) x t (bw w d) (ht.bw' d)).mono fun e w' ⟨a, b, c⟩ => ⟨a, _, c.trans (bw_bw _ _ _)⟩
theorem law51_large1 {P : Nat → Prop} (x : PgW) (p : PgV) (w : World) (h : PgD P w x p) :
    Calls Tryz.prog 63 #[.agg #[.int .i64 x.y, .int .i64 x.m, .int .i64 x.d, .slice x.ta x.tn x.tc]] w fun e w' => e = .returned (.bool (lgP5 p)) ∧ ∃ d, w' = bw w d := by
  have h1 := tksD_len h.ts
  have HC := Lib.hid (fun L => tks_large51 (.slice x.ta x.tn x.tc) p.ts (lay w L) (h.ts.lay L))
  unfold lgP5
  rw [← h1]
  clear h h1
  generalize p.ts.any lgT = r at *
  obtain ⟨xy, xm, xd, xa, xn, xc⟩ := x
  dsimp only at *
  by_cases a1 : (4 : Int) < (xn : Int)
  · rw [decide_eq_true a1]
    refine lay_start ?_
    go_enter Tryz.func63, Tryz.ntmps63
    go_wp2_with (go_at_call 64; refine (HC.out _).mono ?_; rintro e w' ⟨rfl, d, rfl⟩)
    go_ret
    exact ⟨rfl, lay_ex _ _⟩
  · rw [decide_eq_false a1]
    refine lay_start ?_
    go_enter Tryz.func63, Tryz.ntmps63
    go_wp2_with (go_at_call 64; refine (HC.out _).mono ?_; rintro e w' ⟨rfl, d, rfl⟩)
    go_ret
    exact ⟨rfl, lay_ex _ _⟩
theorem pgs_large51 {P : Nat → Prop} (v : Value) (l : List PgV) (w : World) (hv : PgsD P w v l) :
    Calls Tryz.prog 54 #[v, .func (.func 63) #[] #[]] w fun e w' => e = .returned (.bool (l.any lgP5)) ∧ ∃ d, w' = bw w d := by
  obtain ⟨ls, p, h1, h2, h3⟩ := pg_lift hv lgP5
  rw [← h2]
  have eI : ∀ args w, (callFunc 63 args).run Tryz.prog w = .ok (.enter 63 args) w := enters_of Tryz.func63 (by kernel_rfl) rfl
  refine pg_ContainsFunc 63 [] p v ls w h1 eI fun x hx d => ?_
  obtain ⟨t, _, ht, e⟩ := h3 x hx
  rw [e]
  exact (law51_large1 (P := P) x t (bw w d) ⟨ht.y, ht.m, ht.d, ht.ts.lay [.inr d]⟩).mono fun e w' ⟨a, b, c⟩ => ⟨a, _, c.trans (bw_bw _ _ _)⟩
theorem law51_large {P : Nat → Prop} (vp vs : Value) (lp : List PgV) (l : List StarV) (w : World) (hp : PgsD P w vp lp) (hv : SlG stR w vs l) :
    Calls Tryz.prog 24 #[vp, vs] w (AnyB w) := by
  have eI : ∀ args w, (callFunc 66 args).run Tryz.prog w = .ok (.enter 66 args) w := enters_of Tryz.func66 (by kernel_rfl) rfl
  have HI := Lib.hid (fun L => st_ContainsFunc 66 [] (fun x => decide ((100 : Int) < (x.s.size : Int))) vs l (lay w L) (hv.lay L) eI (fun x _ d => (law51_large2 x (bw (lay w L) d)).mono fun e w' ⟨h1, d2, h2⟩ => ⟨h1, _, h2.trans (bw_bw _ _ _)⟩))
  have HP := Lib.hid (fun L => pgs_large51 vp lp (lay w L) (hp.lay L))
  generalize l.any (fun x => decide ((100 : Int) < (x.s.size : Int))) = y at *
  generalize lp.any lgP5 = z at *
  obtain ⟨a, c, rfl⟩ := hv.form
  obtain ⟨pa, pc, rfl⟩ := pgs_form hp
  generalize l.length = m at *
  generalize lp.length = n at *
  clear hv hp eI
  refine lay_start ?_
  go_enter Tryz.func24, Tryz.ntmps24
  go_wp2_with (first | (go_at_call 54; refine (HP.out _).mono ?_; rintro e w' ⟨rfl, d, rfl⟩) | (go_at_call 61; refine (HI.out _).mono ?_; rintro e w' ⟨rfl, d, rfl⟩))
  all_goals go_ret
  all_goals exact ⟨_, rfl, lay_ex _ _⟩
def Book51 (w : World) (vp vs : Value) (lp : List PgV) (ls : List StarV) (e : Ending) (w' : World) : Prop :=
  (e = .returned (.tuple #[.pointer none, .agg #[.slice none 0 0, .slice none 0 0], .bool false]) ∧ ∃ d, w' = bw w d) ∨
  (newE lp ls = 0 ∧ ∃ bk w1 d, e = .returned (.tuple #[.pointer (some ⟨bk, 0, none⟩), .agg #[vp, vs], .bool true]) ∧ w' = bw w d ∧ BkA w1 bk lp ls (bw w d))
theorem law51_book {P : Nat → Prop} (vp vs : Value) (lp : List PgV) (ls : List StarV) (w : World) (hp : PgsD P w vp lp) (hP : ∀ b, P b → b < w.heap.size) (hv : SlG stR w vs ls) :
    Calls Tryz.prog 6 #[vp, vs] w (Book51 w vp vs lp ls) := by
  have HLa := Lib.hid (fun L => law51_large vp vs lp ls (lay w L) (hp.lay L) (hv.lay L))
  have HR := Lib.hid (fun L => ref17_New vp vs lp ls (lay w L) (hp.lay L) (hv.lay L))
  have HNy := Lib.hid (fun L h => alm_New_yes vp vs lp ls (lay w L) (hp.lay L) (fun b hb => Nat.lt_of_lt_of_le (hP b hb) (lay_extends w L).size) (hv.lay L) h)
  obtain ⟨a, c, rfl⟩ := hv.form
  obtain ⟨pa, pc, rfl⟩ := pgs_form hp
  generalize ls.length = m at *
  generalize lp.length = n at *
  clear hv hp hP
  refine lay_start ?_
  go_enter Tryz.func6, Tryz.ntmps6
  go_wp2_with fail
  refine (HLa.out _).mono ?_
  rintro e w' ⟨r, rfl, d, rfl⟩
  rw [lay_bw]
  cases r
  · by_cases hE : newE lp ls = 0
    · rw [hE] at HR
      go_wp2_with (go_at_call 25; refine (HR.out _).mono ?_; rintro e w' ⟨rfl, d2, rfl⟩; rw [lay_bw])
      refine (HNy.out _ hE).mono ?_
      rintro e w' ⟨bk, d3, rfl, rfl, hB⟩
      have HB := Lib.hid hB
      clear hB HNy HLa
      rw [lay_bw] at HB ⊢
      go_wp2_with fail
      obtain ⟨z, hz⟩ := lay_ex w [.inr d3, .inr d2, .inr d, .inl (.cells #[.slice pa n pc, .slice a m c] 33 (0, 0))]
      refine bodyPost_ret (v := .tuple #[.pointer (some ⟨bk, 0, none⟩), .agg #[.slice pa n pc, .slice a m c], .bool true]) (by simp [results, Tryz.results6, go_sem]) rfl (.inr ⟨hE, bk, lay w [.inr d2, .inr d, .inl (.cells #[.slice pa n pc, .slice a m c] 33 (0, 0))], z, rfl, hz, ?_⟩)
      rw [← hz]
      refine bka_swap (w1 := lay w [.inr d2, .inr d, .inl (.cells #[.slice none 0 0, .slice none 0 0] 33 (0, 0))]) (d := d3) ?_ HB.out
      rw [lay_size, lay_size]
      rfl
    · have e1 : (newE lp ls != 0) = true := by simpa using hE
      have e2 : (newE lp ls == 0) = false := beq_eq_false_iff_ne.2 hE
      clear HNy
      generalize newE lp ls = NE at *
      go_wp2_with (go_at_call 25; refine (HR.out _).mono ?_; rintro e w' ⟨rfl, d2, rfl⟩; rw [lay_bw])
      exact bodyPost_ret (v := .tuple #[.pointer none, .agg #[.slice none 0 0, .slice none 0 0], .bool false]) (by simp [results, Tryz.results6, go_sem]) rfl (.inl ⟨rfl, lay_ex _ _⟩)
  · go_wp2_with fail
    exact bodyPost_ret (v := .tuple #[.pointer none, .agg #[.slice none 0 0, .slice none 0 0], .bool false]) (by simp [results, Tryz.results6, go_sem]) rfl (.inl ⟨rfl, lay_ex _ _⟩)
end Go.Proofs.YtjfpgpipbooilaaGreat
/- finder: its chain, Parallactic, as a function. -/
namespace Go.Proofs.YtjfpgpipbooilaaGreat
set_option maxHeartbeats 2000000
set_option maxRecDepth 100000
open Go.RowKit

theorem fc_circle (b : Nat) (lo hi : Int) (w : World) (hc : ChW b w) (hv : validB lo hi = true) :
    Calls Tryz.prog 48 #[.pointer (some ⟨b, 0, none⟩), (.agg #[.int .i64 (lo), .int .i64 (hi)])] w fun e w' => e = .returned (.tuple #[(.agg #[.int .i64 (encL lo hi), .int .i64 (encH lo hi)]), (.agg #[.int .i64 (cosL lo hi), .int .i64 (cosH lo hi)])]) ∧ ∃ d, w' = bw w d := by
  have HS := Lib.hid (fun W => tg_Sin lo hi hv W)
  have HT := Lib.hid (fun W => tg_Cos lo hi hv W)
  unfold cosL cosH
  generalize encL (lo + 5400000) (hi + 5400000) = p at *
  generalize encH (lo + 5400000) (hi + 5400000) = q at *
  generalize encL lo hi = r at *
  generalize encH lo hi = s at *
  have hb := hc.lt
  have h1 := hc.cell
  have h2 := hc.froz
  have h3 : ∀ L, (lay w L).setCell ⟨b, 0, none⟩ (.int .i64 0) = lay w L := fun L => (hc.lay L).set
  have hmx : mx 0 0 = 0 := by decide
  clear hv hc
  refine lay_start ?_
  go_enter Tryz.func48, Tryz.ntmps48
  go_wp2_with (first | (go_at_call 91; refine (HS.out _).mono ?_; rintro e w' ⟨rfl, d, rfl⟩; rw [lay_bw]) | (go_at_call 92; refine (HT.out _).mono ?_; rintro e w' ⟨rfl, d2, rfl⟩; rw [lay_bw]))
  go_region
  go_wp2_with fail
  refine bodyPost_ret (v := .tuple #[(.agg #[.int .i64 (r), .int .i64 (s)]), (.agg #[.int .i64 (p), .int .i64 (q)])]) (by simp [results, Tryz.results48, go_sem]) rfl ⟨rfl, ?_⟩
  rw [bw_drewExt, lay_bw]
  exact lay_ex _ _
theorem fc_do (b : Nat) (g : FuncId) (a0 a1 b0 b1 m0 m1 : Int) (w : World) (hc : ChW b w) (eI : ∀ args w, (callFunc g args).run Tryz.prog w = .ok (.enter g args) w)
    (hg : ∀ W, Calls Tryz.prog g #[(.agg #[.int .i64 (a0), .int .i64 (a1)]), (.agg #[.int .i64 (b0), .int .i64 (b1)])] W fun e w' => e = .returned (.tuple #[(.agg #[.int .i64 (m0), .int .i64 (m1)]), .int .i64 0]) ∧ ∃ d, w' = bw W d) :
    Calls Tryz.prog 49 #[.pointer (some ⟨b, 0, none⟩), .func (.func g) #[] #[], (.agg #[.int .i64 (a0), .int .i64 (a1)]), (.agg #[.int .i64 (b0), .int .i64 (b1)])] w fun e w' => e = .returned (.agg #[.int .i64 (m0), .int .i64 (m1)]) ∧ ∃ d, w' = bw w d := by
  have HG := Lib.hid hg
  have hb := hc.lt
  have h1 := hc.cell
  have h2 := hc.froz
  have h3 : ∀ L, (lay w L).setCell ⟨b, 0, none⟩ (.int .i64 0) = lay w L := fun L => (hc.lay L).set
  clear hg hc
  refine lay_start ?_
  go_enter Tryz.func49, Tryz.ntmps49
  go_wp2_with fail
  refine (HG.out _).mono ?_
  rintro e w' ⟨rfl, d1, rfl⟩
  rw [lay_bw]
  go_wp2_with fail
  exact bodyPost_ret (v := (.agg #[.int .i64 (m0), .int .i64 (m1)])) (by simp [results, Tryz.results49, go_sem]) rfl ⟨rfl, lay_ex _ _⟩
def paY (a0 a1 c0 c1 : Int) : Int × Int := mL (cI a0 a1) (sI c0 c1)
def paX (a0 a1 b0 b1 c0 c1 : Int) : Int × Int := ((mL (sI a0 a1) (cI b0 b1)).1 - (mL (mL (cI a0 a1) (cI c0 c1)) (sI b0 b1)).2, (mL (sI a0 a1) (cI b0 b1)).2 - (mL (mL (cI a0 a1) (cI c0 c1)) (sI b0 b1)).1)
def paF (a0 a1 b0 b1 c0 c1 : Int) : Int × Int := brF (paX a0 a1 b0 b1 c0 c1).1 (paX a0 a1 b0 b1 c0 c1).2 (paY a0 a1 c0 c1).1 (paY a0 a1 c0 c1).2
theorem fn_Parallactic (a0 a1 b0 b1 c0 c1 : Int) (w : World) (h : triB a0 a1 b0 b1 c0 c1 = true) :
    Calls Tryz.prog 21 #[(.agg #[.int .i64 (a0), .int .i64 (a1), .int .i64 (b0), .int .i64 (b1), .int .i64 (c0), .int .i64 (c1)])] w fun e w' => e = .returned (.tuple #[(.agg #[.int .i64 ((paF a0 a1 b0 b1 c0 c1).1), .int .i64 ((paF a0 a1 b0 b1 c0 c1).2)]), .int .i64 0]) ∧ ∃ d, w' = bw w d := by
  have HV := Lib.hid (fun W => cos_Valid a0 a1 b0 b1 c0 c1 W)
  rw [h] at HV
  unfold triB at h
  simp only [Bool.and_eq_true] at h
  have va := lat_valid h.1.1
  have vb := lat_valid h.1.2
  have vc := h.2
  have eM : ∀ args w, (callFunc 50 args).run Tryz.prog w = .ok (.enter 50 args) w := enters_of Tryz.func50 (by kernel_rfl) rfl
  have eS : ∀ args w, (callFunc 51 args).run Tryz.prog w = .ok (.enter 51 args) w := enters_of Tryz.func51 (by kernel_rfl) rfl
  have u1 := sI_un a0 a1
  have u2 := cI_un a0 a1
  have u3 := sI_un b0 b1
  have u4 := cI_un b0 b1
  have u5 := sI_un c0 c1
  have u6 := cI_un c0 c1
  have m1 := u2.mul u5
  have m2 := u1.mul u4
  have m3 := u2.mul u6
  have m4 := m3.mul u3
  have hx : fxB (paX a0 a1 b0 b1 c0 c1).1 (paX a0 a1 b0 b1 c0 c1).2 = true := by
    obtain ⟨h1, h2, h3⟩ := m2
    obtain ⟨h4, h5, h6⟩ := m4
    unfold paX
    rw [fxB_iff]; dsimp only; omega
  have HC1 := Lib.hid (fun b W (hc : ChW b W) => fc_circle b a0 a1 W hc va)
  have HC2 := Lib.hid (fun b W (hc : ChW b W) => fc_circle b b0 b1 W hc vb)
  have HC3 := Lib.hid (fun b W (hc : ChW b W) => fc_circle b c0 c1 W hc vc)
  have HM1 : Hid (∀ b W, ChW b W → Calls _ _ #[_, _, _, _] W fun e w' => e = .returned (.agg #[.int .i64 ((paY a0 a1 c0 c1).1), .int .i64 ((paY a0 a1 c0 c1).2)]) ∧ _) := Lib.hid (fun b W hc => fc_do b 50 (cosL a0 a1) (cosH a0 a1) (encL c0 c1) (encH c0 c1) _ _ W hc eM (fun W' => fx_MulG _ _ _ _ W' u2.fx u5.fx m1.fx))
  have HM2 : Hid (∀ b W, ChW b W → Calls _ _ #[_, _, _, _] W fun e w' => e = .returned (.agg #[.int .i64 ((mL (sI a0 a1) (cI b0 b1)).1), .int .i64 ((mL (sI a0 a1) (cI b0 b1)).2)]) ∧ _) := Lib.hid (fun b W hc => fc_do b 50 (encL a0 a1) (encH a0 a1) (cosL b0 b1) (cosH b0 b1) _ _ W hc eM (fun W' => fx_MulG _ _ _ _ W' u1.fx u4.fx m2.fx))
  have HM3 : Hid (∀ b W, ChW b W → Calls _ _ #[_, _, _, _] W fun e w' => e = .returned (.agg #[.int .i64 ((mL (cI a0 a1) (cI c0 c1)).1), .int .i64 ((mL (cI a0 a1) (cI c0 c1)).2)]) ∧ _) := Lib.hid (fun b W hc => fc_do b 50 (cosL a0 a1) (cosH a0 a1) (cosL c0 c1) (cosH c0 c1) _ _ W hc eM (fun W' => fx_MulG _ _ _ _ W' u2.fx u6.fx m3.fx))
  have HM4 : Hid (∀ b W, ChW b W → Calls _ _ #[_, _, _, _] W fun e w' => e = .returned (.agg #[.int .i64 ((mL (mL (cI a0 a1) (cI c0 c1)) (sI b0 b1)).1), .int .i64 ((mL (mL (cI a0 a1) (cI c0 c1)) (sI b0 b1)).2)]) ∧ _) := Lib.hid (fun b W hc => fc_do b 50 (mL (cI a0 a1) (cI c0 c1)).1 (mL (cI a0 a1) (cI c0 c1)).2 (encL b0 b1) (encH b0 b1) _ _ W hc eM (fun W' => fx_MulG _ _ _ _ W' m3.fx u3.fx m4.fx))
  have HD : Hid (∀ b W, ChW b W → Calls _ _ #[_, _, _, _] W fun e w' => e = .returned (.agg #[.int .i64 ((paX a0 a1 b0 b1 c0 c1).1), .int .i64 ((paX a0 a1 b0 b1 c0 c1).2)]) ∧ _) := Lib.hid (fun b W hc => fc_do b 51 (mL (sI a0 a1) (cI b0 b1)).1 (mL (sI a0 a1) (cI b0 b1)).2 (mL (mL (cI a0 a1) (cI c0 c1)) (sI b0 b1)).1 (mL (mL (cI a0 a1) (cI c0 c1)) (sI b0 b1)).2 _ _ W hc eS (fun W' => fx_SubG _ _ _ _ W' m2.fx m4.fx hx))
  have HB : Hid (∀ W, Calls _ _ #[_, _] W fun e w' => e = .returned (.tuple #[(.agg #[.int .i64 ((paF a0 a1 b0 b1 c0 c1).1), .int .i64 ((paF a0 a1 b0 b1 c0 c1).2)]), .int .i64 0]) ∧ _) := Lib.hid (fun W => ar_BearG (paY a0 a1 c0 c1).1 (paY a0 a1 c0 c1).2 (paX a0 a1 b0 b1 c0 c1).1 (paX a0 a1 b0 b1 c0 c1).2 m1.fx hx W)
  clear hx u1 u2 u3 u4 u5 u6 m1 m2 m3 m4 va vb vc h eM eS
  generalize (paF a0 a1 b0 b1 c0 c1).1 = u at *
  generalize (paF a0 a1 b0 b1 c0 c1).2 = v at *
  generalize (paX a0 a1 b0 b1 c0 c1).1 = x0 at *
  generalize (paX a0 a1 b0 b1 c0 c1).2 = x1 at *
  generalize (paY a0 a1 c0 c1).1 = y0 at *
  generalize (paY a0 a1 c0 c1).2 = y1 at *
  generalize (mL (mL (cI a0 a1) (cI c0 c1)) (sI b0 b1)).1 = g0 at *
  generalize (mL (mL (cI a0 a1) (cI c0 c1)) (sI b0 b1)).2 = g1 at *
  generalize (mL (cI a0 a1) (cI c0 c1)).1 = h0 at *
  generalize (mL (cI a0 a1) (cI c0 c1)).2 = h1 at *
  generalize (mL (sI a0 a1) (cI b0 b1)).1 = z0 at *
  generalize (mL (sI a0 a1) (cI b0 b1)).2 = z1 at *
  generalize encL a0 a1 = p1 at *
  generalize encH a0 a1 = q1 at *
  generalize encL b0 b1 = p2 at *
  generalize encH b0 b1 = q2 at *
  generalize encL c0 c1 = p3 at *
  generalize encH c0 c1 = q3 at *
  generalize cosL a0 a1 = r1 at *
  generalize cosH a0 a1 = t1 at *
  generalize cosL b0 b1 = r2 at *
  generalize cosH b0 b1 = t2 at *
  generalize cosL c0 c1 = r3 at *
  generalize cosH c0 c1 = t3 at *
  refine lay_start ?_
  go_enter Tryz.func21, Tryz.ntmps21
  go_wp2_with (go_at_call 47; refine (HV.out _).mono ?_; rintro e w' ⟨rfl, dV, rfl⟩; rw [lay_bw])
  have hc0 : ChW (posn w [dV.n, 1, 1]) (lay w [.inl (Obj.cells #[.int .i64 0] 99), .inr dV, .inl (Obj.cells #[.int .i64 0, .int .i64 0] 26), .inl (Obj.cells #[.int .i64 a0, .int .i64 a1, .int .i64 b0, .int .i64 b1, .int .i64 c0, .int .i64 c1] 67)]) := chW_new w _ _ _ rfl
  refine (HC1.out _ _ hc0).mono ?_
  rintro e w' ⟨rfl, e1, rfl⟩
  rw [lay_bw]
  have hc1 := hc0.on [.inl (Obj.cells #[.int .i64 r1, .int .i64 t1] 100), .inl (Obj.cells #[.int .i64 p1, .int .i64 q1] 100), .inr e1]
  simp only [List.cons_append, List.nil_append] at hc1
  go_wp2_with fail
  refine (HC2.out _ _ hc1).mono ?_
  rintro e w' ⟨rfl, e2, rfl⟩
  rw [lay_bw]
  have hc2 := hc1.on [.inl (Obj.cells #[.int .i64 r2, .int .i64 t2] 100), .inl (Obj.cells #[.int .i64 p2, .int .i64 q2] 100), .inr e2]
  simp only [List.cons_append, List.nil_append] at hc2
  go_wp2_with fail
  refine (HC3.out _ _ hc2).mono ?_
  rintro e w' ⟨rfl, e3, rfl⟩
  rw [lay_bw]
  have hc3 := hc2.on [.inl (Obj.cells #[.int .i64 r3, .int .i64 t3] 100), .inl (Obj.cells #[.int .i64 p3, .int .i64 q3] 100), .inr e3]
  simp only [List.cons_append, List.nil_append] at hc3
  go_wp2_with fail
  refine (HM1.out _ _ hc3).mono ?_
  rintro e w' ⟨rfl, e4, rfl⟩
  rw [lay_bw]
  go_wp2_with fail
  have HC := Lib.hid (fun e : Ext => hc3.on [.inr e, .inl (Obj.cells #[.int .i64 y0, .int .i64 y1] 100), .inr e4])
  simp only [List.cons_append, List.nil_append] at HC
  clear hc0 hc1 hc2 hc3
  refine region_mixW [0, 0, 0, 0, 0, 0, 0, 0, 0, 0, 0, 0, 0, 1, 1] (by kernel_rfl) (by kernel_rfl) (by kernel_rfl) ?_
  repeat (first | (refine wpM_quiet (fun K hK => ?_); go_simp; first | (refine hK _ ?_; clear hK K) | (apply Exists.intro; refine ⟨fun _ => ?_, hK _ ?_⟩; (first | (go_at_call 49; first | ((with_reducible refine bq (HM2.out _ _ (HC.out _)) ?_); first | exact (fun d => ⟨d, rfl⟩) | exact (fun d => lay_join _ _ _ d)) | ((with_reducible refine bq (HM3.out _ _ (HC.out _)) ?_); first | exact (fun d => ⟨d, rfl⟩) | exact (fun d => lay_join _ _ _ d)) | ((with_reducible refine bq (HM4.out _ _ (HC.out _)) ?_); first | exact (fun d => ⟨d, rfl⟩) | exact (fun d => lay_join _ _ _ d)) | ((with_reducible refine bq (HD.out _ _ (HC.out _)) ?_); first | exact (fun d => ⟨d, rfl⟩) | exact (fun d => lay_join _ _ _ d)))); clear hK K)) | (refine wpM_special (fun K hK d => ?_); go_simp; refine hK _ _ (by first | exact lay_in w [_] _ | exact lay_in w [_, _] _ | exact lay_in w [_, _, _] _ | exact lay_in w [_, _, _, _] _ | exact lay_in w [_, _, _, _, _] _ | exact lay_in w [_, _, _, _, _, _] _) ?_; clear hK K))
  refine wpM_nil ?_
  intro d
  rw [lay_bw]
  go_wp2_with (go_at_call 52; refine (HB.out _).mono ?_; rintro e w' ⟨rfl, d3, rfl⟩; rw [lay_bw])
  exact bodyPost_ret (v := .tuple #[(.agg #[.int .i64 (u), .int .i64 (v)]), .int .i64 0]) (by simp [results, Tryz.results21, go_sem]) rfl ⟨rfl, lay_ex _ _⟩
end Go.Proofs.YtjfpgpipbooilaaGreat
/- Values of the chapter's examples: the sine of 60 degrees, an altitude of 0, the bearings. -/
namespace Go.Proofs.YtjfpgpipbooilaaGreat
open Go.RowKit

theorem sinQ60 : sinQ 3600000 = 929887696 := by
  have e : sinQ 3600000 = octC (5400000 - 3600000) := by unfold sinQ; rw [if_neg (by decide), if_neg (by decide), if_neg (by decide), if_neg (by decide)]
  rw [e]
  exact (oct_of rot_1800000).2.trans (by decide +kernel)
theorem b60 : bLo 3600000 = 929887696 ∧ bHi 3600000 = 929887697 := by
  have e : foldT 3600000 = 3600000 := by decide +kernel
  have s : souB 3600000 = false := by decide +kernel
  have o : oneQ 3600000 = 1 := by decide +kernel
  unfold bLo bHi
  rw [e, s, sinQ60, o]
  exact ⟨rfl, rfl⟩
theorem b120 : bLo 7200000 = 929887696 ∧ bHi 7200000 = 929887697 := by
  have e : foldT 7200000 = 3600000 := by decide +kernel
  have s : souB 7200000 = false := by decide +kernel
  have o : oneQ 3600000 = 1 := by decide +kernel
  unfold bLo bHi
  rw [e, s, sinQ60, o]
  exact ⟨rfl, rfl⟩
theorem sI60 : sI 3600000 3600000 = (929887696, 929887697) := by
  have m1 : metB 3600000 3600000 16200000 = false := by decide +kernel
  have m2 : metB 3600000 3600000 5400000 = false := by decide +kernel
  unfold sI encL encH
  rw [m1, m2, b60.1, b60.2]
  rfl
theorem cI30 : cI 1800000 1800000 = (929887696, 929887697) := by
  have m1 : metB 7200000 7200000 16200000 = false := by decide +kernel
  have m2 : metB 7200000 7200000 5400000 = false := by decide +kernel
  unfold cI cosL cosH
  show (encL 7200000 7200000, encH 7200000 7200000) = _
  unfold encL encH
  rw [m1, m2, b120.1, b120.2]
  rfl
theorem sI0 : sI 0 0 = (0, 0) := by decide +kernel
theorem cI0 : cI 0 0 = (1073741824, 1073741824) := by decide +kernel
theorem sI30 : sI 1800000 1800000 = (536870912, 536870912) := by decide +kernel
theorem sI270 : sI 16200000 16200000 = (-1073741824, -1073741824) := by decide +kernel
theorem cI270 : cI 16200000 16200000 = (0, 0) := by decide +kernel
theorem mL_zero (p : Int × Int) : mL p (0, 0) = (0, 0) := by
  unfold mL mulL mulH m4 x4
  simp [mn, mx]
theorem pa_eg : paF 0 0 0 0 3600000 3600000 = (5400000, 5400000) := by
  have hx : paX 0 0 0 0 3600000 3600000 = (0, 0) := by
    unfold paX
    rw [sI0, mL_zero]
    have : mL (0, 0) (cI 0 0) = (0, 0) := by rw [cI0]; decide +kernel
    rw [this]
    rfl
  have hy : paY 0 0 3600000 3600000 = (929887696, 929887697) := by
    unfold paY
    rw [cI0, sI60]
    decide +kernel
  unfold paF
  rw [hx, hy]
  decide +kernel
theorem az_eg : azF 0 0 1800000 1800000 16200000 16200000 = (3599999, 3600001) := by
  have hx : azX 0 0 1800000 1800000 16200000 16200000 = (536870912, 536870912) := by
    unfold azX
    rw [sI0, mL_zero, sI30, cI0]
    decide +kernel
  have hy : azY 1800000 1800000 16200000 16200000 = (929887696, 929887697) := by
    unfold azY
    rw [cI30, sI270]
    decide +kernel
  unfold azF
  rw [hx, hy]
  decide +kernel
theorem asn0 : asnI 0 = 0 := by
  have h1 := asnI_ge (v := 0) (n := 0) (by decide) (by decide) (by decide +kernel)
  have h2 := asnI_lt (v := 0) (n := 1) (by decide) (by decide) (by rw [b_1]; decide)
  omega
theorem al_eg : alL 0 0 1800000 1800000 16200000 16200000 = 0 ∧ alH 0 0 1800000 1800000 16200000 16200000 = 0 := by
  have s0 : altS0 0 0 1800000 1800000 16200000 16200000 = 0 ∧ altS1 0 0 1800000 1800000 16200000 16200000 = 0 := by
    have h1 := congrArg Prod.fst sI0
    have h2 := congrArg Prod.snd sI0
    have h3 := congrArg Prod.fst cI270
    have h4 := congrArg Prod.snd cI270
    have k1 : encL 0 0 = 0 := h1
    have k2 : encH 0 0 = 0 := h2
    have k3 : cosL 16200000 16200000 = 0 := h3
    have k4 : cosH 16200000 16200000 = 0 := h4
    have z1 : ∀ a b, mulL 0 0 a b = 0 ∧ mulH 0 0 a b = 0 := fun a b => by unfold mulL mulH m4 x4; simp [mn, mx]
    have z2 : ∀ a b, mulL a b 0 0 = 0 ∧ mulH a b 0 0 = 0 := fun a b => by unfold mulL mulH m4 x4; simp [mn, mx]
    unfold altS0 altS1 ssL ssH c3L c3H
    rw [k1, k2, k3, k4, (z1 _ _).1, (z1 _ _).2, (z2 _ _).1, (z2 _ _).2]
    exact ⟨rfl, rfl⟩
  have e0 : asE 0 0 = 0 := by rw [asE_at]; decide +kernel
  unfold alL alH asL asH
  rw [s0.1, s0.2, if_pos e0, if_pos e0]
  have m1 : mx 0 (-1073741824) = 0 := by decide
  have m2 : mn 0 1073741824 = 0 := by decide
  rw [m1, m2]
  simp [asn0]
end Go.Proofs.YtjfpgpipbooilaaGreat
/- The example's book of one star: what is in its sky. -/
namespace Go.Proofs.YtjfpgpipbooilaaGreat
open Go.RowKit Go.Shelf

theorem vega_noB : isA vegaS = false := by unfold isA; rw [vega_list]; rfl
theorem vega_new : newE [] [vegaV] = 0 := by
  unfold newE
  have h1 : badP [] = false := rfl
  have h2 : twB [] [vegaV] = false := by
    unfold twB
    rw [tkL_nil]
    show (false || ((isA vegaS || false) || false)) = false
    rw [vega_noB]
    rfl
  rw [if_neg (by simp), if_neg (by rw [h1, vega_cat]; simp), if_neg (by intro h; exact h (fun i p q hi => by simp at hi)), if_neg (by rw [h2]; simp)]
theorem vega_ok : NewOk [] [vegaV] := newE_0 vega_new
theorem vega_first : [vegaV].find? (fun x => nmB x.s vegaS) = some vegaV := by
  have e : nmB vegaV.s vegaS = true := by
    show (vegaS.toList == vegaS.toList) = true
    exact beq_self_eq_true _
  rw [List.find?_cons, e]
theorem vega_where : (whR [] [vegaV] vegaS 0 0).2 = 0 := by
  rw [whR_star (i := 0) (x := vegaV) (by decide) (by decide) vega_noB vega_find vega_first]
theorem vega_sky : ∃ z : SeenV, skyL (cndL [] [vegaV] 0 0 0 0 0 0) (-5400000) = [z] ∧ z.s = vegaS := by
  have hb := cnd_bd (lp := []) (ls := [vegaV]) (a := 0) (b := 0) (u := 0) (v := 0) (x := 0) (y := 0) vega_ok (by decide)
  have e : nmL [] [vegaV] = [ariesS, vegaS] := by unfold nmL; rw [tkL_nil]; rfl
  have e1 : cnd1 [] [vegaV] 0 0 0 0 0 0 ariesS = [] := by unfold cnd1; rw [if_pos isA_aries]
  obtain ⟨z, hz, hs⟩ : ∃ z : SeenV, cnd1 [] [vegaV] 0 0 0 0 0 0 vegaS = [z] ∧ z.s = vegaS := by
    unfold cnd1
    rw [if_neg (by rw [vega_noB]; decide), if_pos vega_where]
    exact ⟨_, rfl, rfl⟩
  have e2 : cndL [] [vegaV] 0 0 0 0 0 0 = [z] := by
    unfold cndL
    rw [e]
    show cnd1 _ _ _ _ _ _ _ _ ariesS ++ (cnd1 _ _ _ _ _ _ _ _ vegaS ++ []) = _
    rw [e1, hz]; rfl
  rw [e2] at hb ⊢
  refine ⟨z, ?_, hs⟩
  have h1 := (hb z (List.mem_singleton.2 rfl)).1
  unfold skyL
  rw [List.filter_cons, decide_eq_true (show -5400000 ≤ z.h1 by omega)]
  rfl
end Go.Proofs.YtjfpgpipbooilaaGreat
/- finder: Unknown, as a function. -/
namespace Go.Proofs.YtjfpgpipbooilaaGreat
open Go.RowKit Go.Shelf

set_option maxHeartbeats 4000000 in
set_option maxRecDepth 100000 in
theorem fn_Unknown (a0 a1 b0 b1 c0 c1 g0 g1 l0 l1 z0 z1 p0 p1 q0 q1 : Int) (w : World) (h : triB a0 a1 b0 b1 c0 c1 = true) (hg : validB g0 g1 = true) (hl : validB l0 l1 = true) (hz : azF a0 a1 b0 b1 c0 c1 = (z0, z1))
    (hp : p0 = z0 + -(turnHi l0 l1) ∧ p1 = z1 + -(turnLo l0 l1)) (hq : q0 = p0 + -(turnHi g0 g1) ∧ q1 = p1 + -(turnLo g0 g1)) :
    Calls Tryz.prog 22 #[(.agg #[.int .i64 (a0), .int .i64 (a1)]), (.agg #[.int .i64 (b0), .int .i64 (b1)]), (.agg #[.int .i64 (c0), .int .i64 (c1)]), (.agg #[.int .i64 (g0), .int .i64 (g1)]), (.agg #[.int .i64 (l0), .int .i64 (l1)])] w fun e w' => e = .returned (.tuple #[(.agg #[.int .i64 (turnLo q0 q1), .int .i64 (turnHi q0 q1)]), (.agg #[.int .i64 (alL a0 a1 b0 b1 c0 c1), .int .i64 (alH a0 a1 b0 b1 c0 c1)]), .int .i64 0]) ∧ ∃ d, w' = bw w d := by
  have HS := Lib.hid (fun W => cos_Solve a0 a1 b0 b1 c0 c1 W h)
  have hb := brF_bd (azX a0 a1 b0 b1 c0 c1).1 (azX a0 a1 b0 b1 c0 c1).2 (azY b0 b1 c0 c1).1 (azY b0 b1 c0 c1).2
  change 0 ≤ (azF a0 a1 b0 b1 c0 c1).1 ∧ (azF a0 a1 b0 b1 c0 c1).1 ≤ (azF a0 a1 b0 b1 c0 c1).2 ∧ (azF a0 a1 b0 b1 c0 c1).2 ≤ 43200000 at hb
  rw [hz] at HS hb
  dsimp only at HS hb
  unfold triB at h
  simp only [Bool.and_eq_true] at h
  have HL1 := Lib.hid (fun W => fn_latitude a0 a1 W)
  have HL2 := Lib.hid (fun W => fn_latitude b0 b1 W)
  have HV1 := Lib.hid (fun W => angle_Valid c0 c1 W)
  have HV2 := Lib.hid (fun W => angle_Valid g0 g1 W)
  have HV3 := Lib.hid (fun W => angle_Valid l0 l1 W)
  rw [h.1.1] at HL1
  rw [h.1.2] at HL2
  rw [h.2] at HV1
  rw [hg] at HV2
  rw [hl] at HV3
  have tl := turn_bd (validB_iff.1 hl).1
  have tg := turn_bd (validB_iff.1 hg).1
  have vp : validB p0 p1 = true := validB_iff.2 (by omega)
  have vq : validB q0 q1 = true := validB_iff.2 (by omega)
  have vz : validB z0 z1 = true := validB_iff.2 (by omega)
  have HT1 := Lib.hid (fun W => angle_Turn l0 l1 W hl)
  have HT2 := Lib.hid (fun W => angle_Turn g0 g1 W hg)
  have HT3 := Lib.hid (fun W => angle_Turn q0 q1 W vq)
  have HS1 : Hid (∀ W, Calls _ _ #[_, _] W fun e w' => e = .returned (.tuple #[(.agg #[.int .i64 (p0), .int .i64 (p1)]), .int .i64 0]) ∧ _) := Lib.hid (fun W => by
    have := angle_Sub z0 z1 (turnLo l0 l1) (turnHi l0 l1) W vz (turn_valid (validB_iff.1 hl).1) (by rw [← hp.1, ← hp.2]; exact vp)
    rw [← hp.1, ← hp.2] at this
    exact this)
  have HS2 : Hid (∀ W, Calls _ _ #[_, _] W fun e w' => e = .returned (.tuple #[(.agg #[.int .i64 (q0), .int .i64 (q1)]), .int .i64 0]) ∧ _) := Lib.hid (fun W => by
    have := angle_Sub p0 p1 (turnLo g0 g1) (turnHi g0 g1) W vp (turn_valid (validB_iff.1 hg).1) (by rw [← hq.1, ← hq.2]; exact vq)
    rw [← hq.1, ← hq.2] at this
    exact this)
  clear h hg hl hz hp hq hb tl tg vp vq vz
  generalize alL a0 a1 b0 b1 c0 c1 = x0 at *
  generalize alH a0 a1 b0 b1 c0 c1 = x1 at *
  generalize turnLo q0 q1 = r0 at *
  generalize turnHi q0 q1 = r1 at *
  generalize turnLo l0 l1 = s0 at *
  generalize turnHi l0 l1 = s1 at *
  generalize turnLo g0 g1 = t0 at *
  generalize turnHi g0 g1 = t1 at *
  refine lay_start ?_
  go_enter Tryz.func22, Tryz.ntmps22
  go_wp2_with (first | (go_at_call 29; first | ((with_reducible refine (HL1.out _).mono ?_); rintro e w' ⟨rfl, dq, rfl⟩; rw [lay_bw]) | ((with_reducible refine (HL2.out _).mono ?_); rintro e w' ⟨rfl, dq, rfl⟩; rw [lay_bw])) | (go_at_call 30; first | ((with_reducible refine (HV1.out _).mono ?_); rintro e w' ⟨rfl, dq, rfl⟩; rw [lay_bw]) | ((with_reducible refine (HV2.out _).mono ?_); rintro e w' ⟨rfl, dq, rfl⟩; rw [lay_bw]) | ((with_reducible refine (HV3.out _).mono ?_); rintro e w' ⟨rfl, dq, rfl⟩; rw [lay_bw])) | (go_at_call 20; refine (HS.out _).mono ?_; rintro e w' ⟨rfl, dq, rfl⟩; rw [lay_bw]))
  refine wp_loop_rounds 3 ?_
  rw [rounds_succ]
  go_wp2_with (first | (go_at_call 37; refine (HT1.out _).mono ?_; rintro e w' ⟨rfl, dq, rfl⟩; rw [lay_bw]) | (go_at_call 53; refine (HS1.out _).mono ?_; rintro e w' ⟨rfl, dq, rfl⟩; rw [lay_bw]))
  rw [rounds_succ]
  go_wp2_with (first | (go_at_call 37; refine (HT2.out _).mono ?_; rintro e w' ⟨rfl, dq, rfl⟩; rw [lay_bw]) | (go_at_call 53; refine (HS2.out _).mono ?_; rintro e w' ⟨rfl, dq, rfl⟩; rw [lay_bw]))
  rw [rounds_succ]
  go_wp2_with (first | (go_at_call 37; refine (HT3.out _).mono ?_; rintro e w' ⟨rfl, dq, rfl⟩; rw [lay_bw]))
  go_region
  go_wp2_with fail
  refine bodyPost_ret (v := .tuple #[(.agg #[.int .i64 (r0), .int .i64 (r1)]), (.agg #[.int .i64 (x0), .int .i64 (x1)]), .int .i64 0]) (by simp [results, Tryz.results22, go_sem]) rfl ⟨rfl, ?_⟩
  rw [bw_drewExt, lay_bw]
  exact lay_ex _ _
end Go.Proofs.YtjfpgpipbooilaaGreat

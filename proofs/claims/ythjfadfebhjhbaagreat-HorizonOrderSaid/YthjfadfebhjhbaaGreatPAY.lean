/- Contracts and plain laws, several texts in one: Hz1; Nw3; Lwh; Lho; Sub -/
import Derived.Test.YthjfadfebhjhbaaGreatProg
import Derived.WalkKit
import Derived.WalkSpells
import Derived.WalkLawsBesides
import Derived.Lib.Hide
import Derived.BigQuiet
import Derived.Test.YthjfadfebhjhbaaGreatPAA
import Derived.Test.YthjfadfebhjhbaaGreatPAB
import Derived.Test.YthjfadfebhjhbaaGreatPAJ
import Derived.Test.YthjfadfebhjhbaaGreatPAM
import Derived.Test.YthjfadfebhjhbaaGreatPAR
import Derived.Test.YthjfadfebhjhbaaGreatPAV
import Derived.Test.YthjfadfebhjhbaaGreatPAX
/- The large and the made of the law of chapter 50. -/
namespace Go.Proofs.YthjfadfebhjhbaaGreat
open Go.RowKit Go.Shelf

set_option maxHeartbeats 1000000 in
theorem law50_large2 (x : StarV) (w : World) :
    Calls Tryz.prog 84 #[.agg #[.string x.s, .int .i64 x.sha, .int .i64 x.dec, .int .i64 x.mag]] w fun e w' => e = .returned (.bool (decide ((100 : Int) < (x.s.size : Int)))) ∧ ∃ d, w' = bw w d := by
  obtain ⟨xs, x1, x2, x3⟩ := x
  dsimp only
  refine lay_start ?_
  go_enter Tryz.func84, Tryz.ntmps84
  go_wp2
  go_ret
  exact ⟨rfl, lay_ex _ _⟩
def lgP5 (p : PgV) : Bool := decide ((4 : Int) < (p.ts.length : Int)) || p.ts.any lgT
set_option maxHeartbeats 1000000 in
theorem law50_large11 {P : Nat → Prop} (x : TkW) (t : TrkV) (w : World) (h : TkD P w x t) :
    Calls Tryz.prog 82 #[.agg #[.string x.s, .slice x.ga x.gn x.gc, .slice x.da x.dn x.dc, .int .i64 x.p, .int .i64 x.q, .int .i64 x.r]] w fun e w' => e = .returned (.bool (lgT t)) ∧ ∃ d, w' = bw w d := by
  obtain ⟨h1, h2⟩ := tkD_len h
  have h3 := h.s
  unfold lgT
  rw [← h1, ← h2, ← h3]
  clear h h1 h2 h3
  obtain ⟨xs, ga, gn, gc, da, dn, dc, xp, xq, xr⟩ := x
  dsimp only
  by_cases a1 : (100 : Int) < (xs.size : Int)
  · rw [decide_eq_true a1]
    refine lay_start ?_
    go_enter Tryz.func82, Tryz.ntmps82
    go_wp2
    go_ret
    exact ⟨rfl, lay_ex _ _⟩
  · rw [decide_eq_false a1]
    by_cases a2 : (40 : Int) < (gn : Int)
    · rw [decide_eq_true a2]
      refine lay_start ?_
      go_enter Tryz.func82, Tryz.ntmps82
      go_wp2
      go_ret
      exact ⟨rfl, lay_ex _ _⟩
    · rw [decide_eq_false a2]
      refine lay_start ?_
      go_enter Tryz.func82, Tryz.ntmps82
      go_wp2
      go_ret
      exact ⟨by simp, lay_ex _ _⟩
theorem tks_large50 {P : Nat → Prop} (v : Value) (l : List TrkV) (w : World) (hv : TksD P w v l) :
    Calls Tryz.prog 81 #[v, .func (.func 82) #[] #[]] w fun e w' => e = .returned (.bool (l.any lgT)) ∧ ∃ d, w' = bw w d := by
  obtain ⟨ls, p, h1, h2, h3⟩ := tk_lift hv lgT
  rw [← h2]
  have eI : ∀ args w, (callFunc 82 args).run Tryz.prog w = .ok (.enter 82 args) w := enters_of Tryz.func82 (by kernel_rfl) rfl
  refine tk_ContainsFunc 82 [] p v ls w h1 eI fun x hx d => ?_
  obtain ⟨t, _, ht, e⟩ := h3 x hx
  rw [e]
  exact (law50_large11 (P := P) x t (bw w d) (ht.bw' d)).mono fun e w' ⟨a, b, c⟩ => ⟨a, _, c.trans (bw_bw _ _ _)⟩
set_option maxHeartbeats 1000000 in
theorem law50_large1 {P : Nat → Prop} (x : PgW) (p : PgV) (w : World) (h : PgD P w x p) :
    Calls Tryz.prog 80 #[.agg #[.int .i64 x.y, .int .i64 x.m, .int .i64 x.d, .slice x.ta x.tn x.tc]] w fun e w' => e = .returned (.bool (lgP5 p)) ∧ ∃ d, w' = bw w d := by
  have h1 := tksD_len h.ts
  have HC := Lib.hid (fun L => tks_large50 (.slice x.ta x.tn x.tc) p.ts (lay w L) (h.ts.lay L))
  unfold lgP5
  rw [← h1]
  clear h h1
  generalize p.ts.any lgT = r at *
  obtain ⟨xy, xm, xd, xa, xn, xc⟩ := x
  dsimp only at *
  by_cases a1 : (4 : Int) < (xn : Int)
  · rw [decide_eq_true a1]
    refine lay_start ?_
    go_enter Tryz.func80, Tryz.ntmps80
    go_wp2_with (go_at_call 81; refine (HC.out _).mono ?_; rintro e w' ⟨rfl, d, rfl⟩)
    go_ret
    exact ⟨rfl, lay_ex _ _⟩
  · rw [decide_eq_false a1]
    refine lay_start ?_
    go_enter Tryz.func80, Tryz.ntmps80
    go_wp2_with (go_at_call 81; refine (HC.out _).mono ?_; rintro e w' ⟨rfl, d, rfl⟩)
    go_ret
    exact ⟨rfl, lay_ex _ _⟩
theorem pgs_large50 {P : Nat → Prop} (v : Value) (l : List PgV) (w : World) (hv : PgsD P w v l) :
    Calls Tryz.prog 79 #[v, .func (.func 80) #[] #[]] w fun e w' => e = .returned (.bool (l.any lgP5)) ∧ ∃ d, w' = bw w d := by
  obtain ⟨ls, p, h1, h2, h3⟩ := pg_lift hv lgP5
  rw [← h2]
  have eI : ∀ args w, (callFunc 80 args).run Tryz.prog w = .ok (.enter 80 args) w := enters_of Tryz.func80 (by kernel_rfl) rfl
  refine pg_ContainsFunc 80 [] p v ls w h1 eI fun x hx d => ?_
  obtain ⟨t, _, ht, e⟩ := h3 x hx
  rw [e]
  exact (law50_large1 (P := P) x t (bw w d) ⟨ht.y, ht.m, ht.d, ht.ts.lay [.inr d]⟩).mono fun e w' ⟨a, b, c⟩ => ⟨a, _, c.trans (bw_bw _ _ _)⟩
set_option maxHeartbeats 2000000 in
theorem law50_large {P : Nat → Prop} (vp vs : Value) (lp : List PgV) (l : List StarV) (s : ByteArray) (w : World) (hp : PgsD P w vp lp) (hv : SlG stR w vs l) :
    Calls Tryz.prog 40 #[vp, vs, .string s] w (AnyB w) := by
  have eI : ∀ args w, (callFunc 84 args).run Tryz.prog w = .ok (.enter 84 args) w := enters_of Tryz.func84 (by kernel_rfl) rfl
  have HI := Lib.hid (fun L => st_ContainsFunc 84 [] (fun x => decide ((100 : Int) < (x.s.size : Int))) vs l (lay w L) (hv.lay L) eI (fun x _ d => (law50_large2 x (bw (lay w L) d)).mono fun e w' ⟨h1, d2, h2⟩ => ⟨h1, _, h2.trans (bw_bw _ _ _)⟩))
  have HP := Lib.hid (fun L => pgs_large50 vp lp (lay w L) (hp.lay L))
  generalize l.any (fun x => decide ((100 : Int) < (x.s.size : Int))) = y at *
  generalize lp.any lgP5 = z at *
  obtain ⟨a, c, rfl⟩ := hv.form
  obtain ⟨pa, pc, rfl⟩ := pgs_form hp
  generalize l.length = m at *
  generalize lp.length = n at *
  clear hv hp eI
  refine lay_start ?_
  go_enter Tryz.func40, Tryz.ntmps40
  go_wp2_with (first | (go_at_call 79; refine (HP.out _).mono ?_; rintro e w' ⟨rfl, d, rfl⟩) | (go_at_call 83; refine (HI.out _).mono ?_; rintro e w' ⟨rfl, d, rfl⟩))
  all_goals go_ret
  all_goals exact ⟨_, rfl, lay_ex _ _⟩
/-- What made leaves. -/
def Made50 (w : World) (vp vs : Value) (lp : List PgV) (ls : List StarV) (e : Ending) (w' : World) : Prop :=
  (e = .returned (.tuple #[.pointer none, .agg #[.slice none 0 0, .slice none 0 0]]) ∧ ∃ d, w' = bw w d) ∨
  (newE lp ls = 0 ∧ ∃ bk w1 d, e = .returned (.tuple #[.pointer (some ⟨bk, 0, none⟩), .agg #[vp, vs]]) ∧ w' = bw w d ∧ BkA w1 bk lp ls (bw w d))
theorem bw_far {w1 w2 : World} (hs : w2.heap.size = w1.heap.size) (d : Ext) {b : Nat} (h : w1.heap.size ≤ b) : (bw w2 d).heap[b]? = (bw w1 d).heap[b]? := by
  simp only [bw]
  rw [Array.getElem?_append_right h, Array.getElem?_append_right (by omega), hs]
/-- A book stays one where an older block is written. -/
theorem bka_swap {w1 w2 : World} {bk : Nat} {lp : List PgV} {ls : List StarV} {d : Ext} (hs : w2.heap.size = w1.heap.size) (h : BkA w1 bk lp ls (bw w1 d)) : BkA w2 bk lp ls (bw w2 d) := by
  obtain ⟨h0, vd, vp, vs, h1, h2, h3, h4, h5, h6⟩ := h
  have hz : (bw w1 d).heap.size ≤ (bw w2 d).heap.size := by simp [bw, hs]
  have hk : ∀ b, (w1.heap.size ≤ b ∧ b ≠ bk) → b < (bw w1 d).heap.size → (bw w2 d).heap[b]? = (bw w1 d).heap[b]? := fun b hb _ => bw_far hs d hb.1
  have hb := bw_far hs d h0
  refine ⟨by omega, vd, vp, vs, ⟨Nat.lt_of_lt_of_le h1.lt hz, (cell_keep hb).trans h1.c0, (cell_keep hb).trans h1.c1, (cell_keep hb).trans h1.c2⟩, ?_, ?_, ?_, ?_, ?_⟩
  · exact (LsP.keep (P := fun b => w1.heap.size ≤ b ∧ b ≠ bk) ⟨h2, h3⟩ hz hk).1
  · rw [hs]; exact h3
  · rw [hs]; exact h4.keep hz hk
  · exact slG_keep h5 h6 hz hk
  · rw [hs]; exact h6
set_option maxHeartbeats 2000000 in
theorem law50_made {P : Nat → Prop} (vp vs : Value) (lp : List PgV) (ls : List StarV) (s : ByteArray) (w : World) (hp : PgsD P w vp lp) (hP : ∀ b, P b → b < w.heap.size) (hv : SlG stR w vs ls) :
    Calls Tryz.prog 11 #[vp, vs, .string s] w (Made50 w vp vs lp ls) := by
  have HLa := Lib.hid (fun L => law50_large vp vs lp ls s (lay w L) (hp.lay L) (hv.lay L))
  have HNn := Lib.hid (fun L h => alm_New_no vp vs lp ls (lay w L) (hp.lay L) (fun b hb => Nat.lt_of_lt_of_le (hP b hb) (lay_extends w L).size) (hv.lay L) h)
  have HNy := Lib.hid (fun L h => alm_New_yes vp vs lp ls (lay w L) (hp.lay L) (fun b hb => Nat.lt_of_lt_of_le (hP b hb) (lay_extends w L).size) (hv.lay L) h)
  obtain ⟨a, c, rfl⟩ := hv.form
  obtain ⟨pa, pc, rfl⟩ := pgs_form hp
  generalize ls.length = m at *
  generalize lp.length = n at *
  clear hv hp hP
  refine lay_start ?_
  go_enter Tryz.func11, Tryz.ntmps11
  go_wp2_with fail
  refine (HLa.out _).mono ?_
  rintro e w' ⟨r, rfl, d, rfl⟩
  rw [lay_bw]
  cases r
  · go_wp2_with fail
    by_cases hE : newE lp ls = 0
    · refine (HNy.out _ hE).mono ?_
      rintro e w' ⟨bk, d3, rfl, rfl, hB⟩
      have HB := Lib.hid hB
      clear hB HNy HNn HLa
      rw [lay_bw] at HB ⊢
      go_wp2_with fail
      obtain ⟨z, hz⟩ := lay_ex w [.inr d3, .inr d, .inl (.cells #[.slice pa n pc, .slice a m c] 38 (0, 0))]
      refine bodyPost_ret (v := .tuple #[.pointer (some ⟨bk, 0, none⟩), .agg #[.slice pa n pc, .slice a m c]]) (by simp [results, Tryz.results11, go_sem]) rfl (.inr ⟨hE, bk, lay w [.inr d, .inl (.cells #[.slice pa n pc, .slice a m c] 38 (0, 0))], z, rfl, hz, ?_⟩)
      rw [← hz]
      refine bka_swap (w1 := lay w [.inr d, .inl (.cells #[.slice none 0 0, .slice none 0 0] 38 (0, 0))]) (d := d3) ?_ HB.out
      rw [lay_size, lay_size]
      rfl
    · have e1 : (newE lp ls != 0) = true := by simpa using hE
      have e2 : (newE lp ls == 0) = false := beq_eq_false_iff_ne.2 hE
      refine (HNn.out _ hE).mono ?_
      rintro e w' ⟨rfl, d3, rfl⟩
      generalize newE lp ls = NE at *
      go_wp2_with fail
      exact bodyPost_ret (v := .tuple #[.pointer none, .agg #[.slice none 0 0, .slice none 0 0]]) (by simp [results, Tryz.results11, go_sem]) rfl (.inl ⟨rfl, lay_ex _ _⟩)
  · go_wp2_with fail
    exact bodyPost_ret (v := .tuple #[.pointer none, .agg #[.slice none 0 0, .slice none 0 0]]) (by simp [results, Tryz.results11, go_sem]) rfl (.inl ⟨rfl, lay_ex _ _⟩)
end Go.Proofs.YthjfadfebhjhbaaGreat
/- The example of chapter 17 (awake); right. -/
namespace Go.Proofs.YthjfadfebhjhbaaGreat
open Go.RowKit Go.Shelf

def vegaS : ByteArray := ⟨#[86, 101, 103, 97]⟩
theorem vega_name : nameB vegaS = true := by
  refine nameB_iff.2 ⟨by decide, by decide, fun i hi => ?_, by decide⟩
  have h4 : i < 4 := hi
  match i, h4 with
  | 0, _ => decide
  | 1, _ => decide
  | 2, _ => decide
  | 3, _ => decide
theorem vega_list : vegaS.toList = [86, 101, 103, 97] := by rw [ByteArray.toList_eq]; rfl
end Go.Proofs.YthjfadfebhjhbaaGreat
/- The laws AlmanacWhere and AlmanacHours. -/
namespace Go.Proofs.YthjfadfebhjhbaaGreat
open Go.RowKit Go.Shelf

theorem gv_eta (G : GeoV) : gv G = (.agg #[.int .i64 (G.a), .int .i64 (G.b), .int .i64 (G.c), .int .i64 (G.d), .int .i64 (G.e), .int .i64 (G.f), .int .i64 (G.g), .int .i64 (G.h)]) := rfl
theorem rfL_of {P : Nat → Prop} {w : World} {vp vs : Value} {lp : List PgV} {ls : List StarV} (hp : PgsD P w vp lp) (hv : SlG stR w vs ls) (k : NewOk lp ls) : RfL P w vp vs lp ls := ⟨hp, hv, k.ok, k.few, k.cat⟩
theorem RfL.lay {P : Nat → Prop} {w : World} {vp vs : Value} {lp : List PgV} {ls : List StarV} (h : RfL P w vp vs lp ls) (L : List (Obj ⊕ Ext)) : RfL P (lay w L) vp vs lp ls := ⟨h.pgs.lay L, h.sts.lay L, h.ok, h.few, h.cat⟩
theorem inB_lay {w : World} (L : List (Obj ⊕ Ext)) : ∀ b, InB w b → b < (lay w L).heap.size := fun _ h => Nat.lt_of_lt_of_le h (lay_extends w L).size
end Go.Proofs.YthjfadfebhjhbaaGreat
/- The local hour angle: the program's and the reference's; the law AlmanacHours. -/
namespace Go.Proofs.YthjfadfebhjhbaaGreat
open Go.RowKit Go.Shelf

theorem bodyR_tf {lp : List PgV} {s : ByteArray} {a b : Int} (hok : ∀ p ∈ lp, PgOk p) (h : (bodyR lp s a b).2 = 0) : TF (bodyR lp s a b).1.a (bodyR lp s a b).1.b := by
  cases h1 : trkAt lp s (a / 86400000) with
  | none => rw [bodyR_no h1] at h; cases h
  | some t =>
    have o1 := trkAt_ok hok h1
    by_cases e : a / 86400000 = b / 86400000
    · rw [bodyR_one h1 e]; exact tf_turn (ghaO_le o1 _ _)
    · cases h2 : trkAt lp s (b / 86400000) with
      | none => rw [bodyR_no2 h1 e h2] at h; cases h
      | some u =>
        have o2 := trkAt_ok hok h2
        rw [bodyR_two h1 e h2]
        exact tf_turn (validB_iff.1 (hul_valid (tf_turn (ghaO_le o1 _ _)) (tf_turn (ghaO_le o2 _ _)))).1
theorem whR_tf {lp : List PgV} {ls : List StarV} {s : ByteArray} {a b : Int} (hok : ∀ p ∈ lp, PgOk p) (h : (whR lp ls s a b).2 = 0) : TF (whR lp ls s a b).1.a (whR lp ls s a b).1.b := by
  cases whW lp ls s a b with
  | bad k => rw [whR_bad k] at h; cases h
  | name t k => rw [whR_name t k] at h; cases h
  | wide t k d => rw [whR_wide t k d] at h; cases h
  | aries t d k => rw [whR_aries t d k]; exact tf_turn (ariF_le (timB_iff.1 t).1)
  | star i x t d k f g e =>
    rw [whR_star t d k f e]
    have := ag_bd (timB_iff.1 t).1
    exact tf_turn (by omega)
  | body t d k f g c =>
    rw [whR_body t d k g c] at h ⊢
    exact bodyR_tf hok h
/-- The local hour angle and its error number. -/
noncomputable def lhaE (lp : List PgV) (ls : List StarV) (s : ByteArray) (a b x y : Int) : Int := if timB a b = false ∨ validB x y = false then 1 else (whR lp ls s a b).2
noncomputable def lhaL (lp : List PgV) (ls : List StarV) (s : ByteArray) (a b x y : Int) : Int := if lhaE lp ls s a b x y = 0 then turnLo ((whR lp ls s a b).1.a + turnLo x y) ((whR lp ls s a b).1.b + turnHi x y) else 0
noncomputable def lhaH (lp : List PgV) (ls : List StarV) (s : ByteArray) (a b x y : Int) : Int := if lhaE lp ls s a b x y = 0 then turnHi ((whR lp ls s a b).1.a + turnLo x y) ((whR lp ls s a b).1.b + turnHi x y) else 0
set_option maxHeartbeats 4000000 in
set_option maxRecDepth 100000 in
theorem made_Lha {w : World} {bk : Nat} {lp : List PgV} {ls : List StarV} {W : World} (h : BkA w bk lp ls W) (k : NewOk lp ls) (s : ByteArray) (a b x y : Int) (L : List (Obj ⊕ Ext)) :
    Calls Tryz.prog 75 #[.pointer (some ⟨bk, 0, none⟩), .string s, (.agg #[.int .i64 (a), .int .i64 (b)]), (.agg #[.int .i64 (x), .int .i64 (y)])] (lay W L) fun e w' => e = .returned (.tuple #[(.agg #[.int .i64 (lhaL lp ls s a b x y), .int .i64 (lhaH lp ls s a b x y)]), .int .i64 (lhaE lp ls s a b x y)]) ∧ ∃ d, w' = bw (lay W L) d := by
  have HW := made_Where (h.bw L) k
  have HW2 := Lib.hid (fun L => HW.out s a b L)
  rw [gv_eta] at HW2
  have htf := whR_tf (lp := lp) (ls := ls) (s := s) (a := a) (b := b) k.ok
  have HV := Lib.hid (fun W => clock_Valid a b W)
  have HX := Lib.hid (fun W => angle_Valid x y W)
  have hvx := validB_iff (lo := x) (hi := y)
  have hE : lhaE lp ls s a b x y = if timB a b = false ∨ validB x y = false then 1 else (whR lp ls s a b).2 := rfl
  have hL : lhaL lp ls s a b x y = if lhaE lp ls s a b x y = 0 then turnLo ((whR lp ls s a b).1.a + turnLo x y) ((whR lp ls s a b).1.b + turnHi x y) else 0 := rfl
  have hH : lhaH lp ls s a b x y = if lhaE lp ls s a b x y = 0 then turnHi ((whR lp ls s a b).1.a + turnLo x y) ((whR lp ls s a b).1.b + turnHi x y) else 0 := rfl
  clear HW h k
  generalize lhaL lp ls s a b x y = RL at *
  generalize lhaH lp ls s a b x y = RH at *
  generalize lhaE lp ls s a b x y = RE at *
  generalize (whR lp ls s a b).1 = G at *
  generalize (whR lp ls s a b).2 = E at *
  obtain ⟨r1, r2, r3, r4, r5, r6, r7, r8⟩ := G
  dsimp only at *
  generalize lay W L = w at *
  generalize timB a b = vt at *
  cases vt
  · rw [if_pos (.inl rfl)] at hE
    subst hE
    rw [if_neg (by decide)] at hL hH
    subst hL hH
    clear htf hvx HW2
    refine lay_start ?_
    go_enter Tryz.func75, Tryz.ntmps75
    go_wp2_with (first | (go_at_call 32; refine (HV.out _).mono ?_; rintro e w' ⟨rfl, dV, rfl⟩))
    all_goals exact bodyPost_ret (v := .tuple #[(.agg #[.int .i64 (0), .int .i64 (0)]), .int .i64 1]) (by simp [results, Tryz.results75, go_sem]) rfl ⟨rfl, lay_ex _ _⟩
  · cases hx : validB x y
    · rw [hx] at HX
      rw [if_pos (.inr hx)] at hE
      subst hE
      rw [if_neg (by decide)] at hL hH
      subst hL hH
      clear htf hvx HW2 hx
      refine lay_start ?_
      go_enter Tryz.func75, Tryz.ntmps75
      go_wp2_with (first | (go_at_call 32; refine (HV.out _).mono ?_; rintro e w' ⟨rfl, dV, rfl⟩) | (go_at_call 78; refine (HX.out _).mono ?_; rintro e w' ⟨rfl, dX, rfl⟩))
      all_goals exact bodyPost_ret (v := .tuple #[(.agg #[.int .i64 (0), .int .i64 (0)]), .int .i64 1]) (by simp [results, Tryz.results75, go_sem]) rfl ⟨rfl, lay_ex _ _⟩
    · rw [hx] at HX
      rw [if_neg (by rw [hx]; simp)] at hE
      subst hE
      by_cases h0 : RE = 0
      · rw [if_pos h0] at hL hH
        obtain ⟨t0, t1, t2, t3⟩ := htf h0
        obtain ⟨v1, v2, v3⟩ := hvx.1 hx
        subst h0
        have bt := turn_bd v1
        have HT1 := Lib.hid (fun W => angle_Turn x y W hx)
        have HA := Lib.hid (fun W => angle_Add r1 r2 (turnLo x y) (turnHi x y) W (validB_iff.2 (by omega)) (validB_iff.2 (by omega)) (validB_iff.2 (by omega)))
        have HT2 := Lib.hid (fun W => angle_Turn (r1 + turnLo x y) (r2 + turnHi x y) W (validB_iff.2 (by omega)))
        rw [← hL, ← hH] at HT2
        clear hL hH hvx hx htf bt
        generalize turnLo x y = p at *
        generalize turnHi x y = q at *
        refine lay_start ?_
        go_enter Tryz.func75, Tryz.ntmps75
        go_wp2_with (first | (go_at_call 32; refine (HV.out _).mono ?_; rintro e w' ⟨rfl, dV, rfl⟩) | (go_at_call 78; refine (HX.out _).mono ?_; rintro e w' ⟨rfl, dX, rfl⟩) | (go_at_call 54; refine (HW2.out _).mono ?_; rintro e w' ⟨rfl, dW, rfl⟩) | (go_at_call 115; (with_reducible refine (HT1.out _).mono ?_); rintro e w' ⟨rfl, d1, rfl⟩) | (go_at_call 115; (with_reducible refine (HT2.out _).mono ?_); rintro e w' ⟨rfl, d2, rfl⟩) | (go_at_call 116; refine (HA.out _).mono ?_; rintro e w' ⟨rfl, d3, rfl⟩))
        all_goals exact bodyPost_ret (v := .tuple #[(.agg #[.int .i64 (RL), .int .i64 (RH)]), .int .i64 0]) (by simp [results, Tryz.results75, go_sem]) rfl ⟨rfl, lay_ex _ _⟩
      · rw [if_neg h0] at hL hH
        subst hL hH
        have e1 : (RE != 0) = true := by simpa using h0
        have e2 : (RE == 0) = false := beq_eq_false_iff_ne.2 h0
        clear htf hvx hx
        refine lay_start ?_
        go_enter Tryz.func75, Tryz.ntmps75
        go_wp2_with (first | (go_at_call 32; refine (HV.out _).mono ?_; rintro e w' ⟨rfl, dV, rfl⟩) | (go_at_call 78; refine (HX.out _).mono ?_; rintro e w' ⟨rfl, dX, rfl⟩) | (go_at_call 54; refine (HW2.out _).mono ?_; rintro e w' ⟨rfl, dW, rfl⟩))
        all_goals exact bodyPost_ret (v := .tuple #[(.agg #[.int .i64 (0), .int .i64 (0)]), .int .i64 RE]) (by simp [results, Tryz.results75, go_sem]) rfl ⟨rfl, lay_ex _ _⟩
set_option maxHeartbeats 4000000 in
set_option maxRecDepth 100000 in
theorem ref17_Lha {P : Nat → Prop} (vp vs : Value) (lp : List PgV) (ls : List StarV) (s : ByteArray) (a b x y : Int) (w : World) (h : RfL P w vp vs lp ls) :
    Calls Tryz.prog 45 #[.agg #[vp, vs], .string s, (.agg #[.int .i64 (a), .int .i64 (b)]), (.agg #[.int .i64 (x), .int .i64 (y)])] w fun e w' => e = .returned (.tuple #[(.agg #[.int .i64 (lhaL lp ls s a b x y), .int .i64 (lhaH lp ls s a b x y)]), .int .i64 (lhaE lp ls s a b x y)]) ∧ ∃ d, w' = bw w d := by
  have HW2 := Lib.hid (fun L => ref17_Where vp vs lp ls s a b (lay w L) (h.lay L))
  rw [gv_eta] at HW2
  have htf := whR_tf (lp := lp) (ls := ls) (s := s) (a := a) (b := b) h.ok
  have HV := Lib.hid (fun W => ref10_Valid a b W)
  have HX := Lib.hid (fun W => ref05_Valid x y W)
  have hvx := validB_iff (lo := x) (hi := y)
  have hE : lhaE lp ls s a b x y = if timB a b = false ∨ validB x y = false then 1 else (whR lp ls s a b).2 := rfl
  have hL : lhaL lp ls s a b x y = if lhaE lp ls s a b x y = 0 then turnLo ((whR lp ls s a b).1.a + turnLo x y) ((whR lp ls s a b).1.b + turnHi x y) else 0 := rfl
  have hH : lhaH lp ls s a b x y = if lhaE lp ls s a b x y = 0 then turnHi ((whR lp ls s a b).1.a + turnLo x y) ((whR lp ls s a b).1.b + turnHi x y) else 0 := rfl
  clear h
  generalize lhaL lp ls s a b x y = RL at *
  generalize lhaH lp ls s a b x y = RH at *
  generalize lhaE lp ls s a b x y = RE at *
  generalize (whR lp ls s a b).1 = G at *
  generalize (whR lp ls s a b).2 = E at *
  obtain ⟨r1, r2, r3, r4, r5, r6, r7, r8⟩ := G
  dsimp only at *
  generalize timB a b = vt at *
  cases vt
  · rw [if_pos (.inl rfl)] at hE
    subst hE
    rw [if_neg (by decide)] at hL hH
    subst hL hH
    clear htf hvx HW2
    refine lay_start ?_
    go_enter Tryz.func45, Tryz.ntmps45
    go_wp2_with (first | (go_at_call 12; refine (HV.out _).mono ?_; rintro e w' ⟨rfl, dV, rfl⟩))
    all_goals exact bodyPost_ret (v := .tuple #[(.agg #[.int .i64 (0), .int .i64 (0)]), .int .i64 1]) (by simp [results, Tryz.results45, go_sem]) rfl ⟨rfl, lay_ex _ _⟩
  · cases hx : validB x y
    · rw [hx] at HX
      rw [if_pos (.inr hx)] at hE
      subst hE
      rw [if_neg (by decide)] at hL hH
      subst hL hH
      clear htf hvx HW2 hx
      refine lay_start ?_
      go_enter Tryz.func45, Tryz.ntmps45
      go_wp2_with (first | (go_at_call 12; refine (HV.out _).mono ?_; rintro e w' ⟨rfl, dV, rfl⟩) | (go_at_call 95; refine (HX.out _).mono ?_; rintro e w' ⟨rfl, dX, rfl⟩))
      all_goals exact bodyPost_ret (v := .tuple #[(.agg #[.int .i64 (0), .int .i64 (0)]), .int .i64 1]) (by simp [results, Tryz.results45, go_sem]) rfl ⟨rfl, lay_ex _ _⟩
    · rw [hx] at HX
      rw [if_neg (by rw [hx]; simp)] at hE
      subst hE
      by_cases h0 : RE = 0
      · rw [if_pos h0] at hL hH
        obtain ⟨t0, t1, t2, t3⟩ := htf h0
        obtain ⟨v1, v2, v3⟩ := hvx.1 hx
        subst h0
        have bt := turn_bd v1
        have HT1 := Lib.hid (fun W => ref05_Turn x y W (by omega) v1 (by omega))
        have HA := Lib.hid (fun W => ref05_Add r1 r2 (turnLo x y) (turnHi x y) W (by omega) (by omega) (by omega) (by omega))
        have HT2 := Lib.hid (fun W => ref05_Turn (r1 + turnLo x y) (r2 + turnHi x y) W (by omega) (by omega) (by omega))
        rw [← hL, ← hH] at HT2
        clear hL hH hvx hx htf bt
        generalize turnLo x y = p at *
        generalize turnHi x y = q at *
        refine lay_start ?_
        go_enter Tryz.func45, Tryz.ntmps45
        go_wp2_with (first | (go_at_call 12; refine (HV.out _).mono ?_; rintro e w' ⟨rfl, dV, rfl⟩) | (go_at_call 95; refine (HX.out _).mono ?_; rintro e w' ⟨rfl, dX, rfl⟩) | (go_at_call 30; refine (HW2.out _).mono ?_; rintro e w' ⟨rfl, dW, rfl⟩))
        refine region_mixS 6 [(0, 0), (1, 0), (2, 0), (3, 0), (4, 0), (5, 0), (6, 3), (7, 2)] (by kernel_rfl) (by kernel_rfl) (by kernel_rfl) rfl ?_
        repeat (first | (refine wpMS_pure rfl (fun K hK => ?_); go_simp; refine hK _ ?_; clear hK K) | (refine wpMS_quiet rfl (fun K hK => ?_); go_simp; first | (refine hK _ ?_; clear hK K) | (apply Exists.intro; refine ⟨fun _ => ?_, hK _ ?_⟩; (first | ((with_reducible refine bq (HT1.out _) ?_); exact (fun d => lay_join _ _ _ d)) | ((with_reducible refine bq (HT1.out _) ?_); exact (fun d => ⟨d, rfl⟩)) | ((with_reducible refine bq (HT2.out _) ?_); exact (fun d => lay_join _ _ _ d)) | ((with_reducible refine bq (HT2.out _) ?_); exact (fun d => ⟨d, rfl⟩)) | ((with_reducible refine bq (HA.out _) ?_); exact (fun d => lay_join _ _ _ d)) | ((with_reducible refine bq (HA.out _) ?_); exact (fun d => ⟨d, rfl⟩))); clear hK K)))
        refine wpMS_store rfl (fun K hK e1 => ?_)
        rw [lay_bw]
        go_simp
        refine hK _ _ ?_
        clear hK K
        repeat (first | (refine wpMS_pure rfl (fun K hK => ?_); go_simp; refine hK _ ?_; clear hK K) | (refine wpMS_quiet rfl (fun K hK => ?_); go_simp; first | (refine hK _ ?_; clear hK K) | (apply Exists.intro; refine ⟨fun _ => ?_, hK _ ?_⟩; (first | fail); clear hK K)))
        refine wpMS_nil ?_
        intro d9
        rw [lay_bw]
        go_wp2_with fail
        all_goals exact bodyPost_ret (v := .tuple #[(.agg #[.int .i64 (RL), .int .i64 (RH)]), .int .i64 0]) (by simp [results, Tryz.results45, go_sem]) rfl ⟨rfl, lay_ex _ _⟩
      · rw [if_neg h0] at hL hH
        subst hL hH
        have e1 : (RE != 0) = true := by simpa using h0
        have e2 : (RE == 0) = false := beq_eq_false_iff_ne.2 h0
        clear htf hvx hx
        refine lay_start ?_
        go_enter Tryz.func45, Tryz.ntmps45
        go_wp2_with (first | (go_at_call 12; refine (HV.out _).mono ?_; rintro e w' ⟨rfl, dV, rfl⟩) | (go_at_call 95; refine (HX.out _).mono ?_; rintro e w' ⟨rfl, dX, rfl⟩) | (go_at_call 30; refine (HW2.out _).mono ?_; rintro e w' ⟨rfl, dW, rfl⟩))
        all_goals exact bodyPost_ret (v := .tuple #[(.agg #[.int .i64 (0), .int .i64 (0)]), .int .i64 RE]) (by simp [results, Tryz.results45, go_sem]) rfl ⟨rfl, lay_ex _ _⟩
end Go.Proofs.YthjfadfebhjhbaaGreat
/- The value over a part of a span lies within the value over the span. No program in sight. -/
namespace Go.Proofs.YthjfadfebhjhbaaGreat
open Go.RowKit

theorem hullL_le {l : List (Int × Int)} : ∀ y ∈ l, (hullL l).1 ≤ y.1 ∧ y.2 ≤ (hullL l).2 := by
  cases l with
  | nil => intro y hy; cases hy
  | cons x l =>
    have key : ∀ (l : List (Int × Int)) x, ((l.foldl hull2 x).1 ≤ x.1 ∧ x.2 ≤ (l.foldl hull2 x).2) ∧ ∀ y ∈ l, (l.foldl hull2 x).1 ≤ y.1 ∧ y.2 ≤ (l.foldl hull2 x).2 := by
      intro l
      induction l with
      | nil => exact fun x => ⟨⟨Int.le_refl _, Int.le_refl _⟩, fun y hy => by cases hy⟩
      | cons z l ih =>
        intro x
        obtain ⟨h1, h2⟩ := ih (hull2 x z)
        have e1 : (hull2 x z).1 ≤ x.1 ∧ (hull2 x z).1 ≤ z.1 ∧ x.2 ≤ (hull2 x z).2 ∧ z.2 ≤ (hull2 x z).2 := by unfold hull2; dsimp only; omega
        refine ⟨⟨by show (l.foldl hull2 (hull2 x z)).1 ≤ _; omega, by show _ ≤ (l.foldl hull2 (hull2 x z)).2; omega⟩, fun y hy => ?_⟩
        rcases List.mem_cons.1 hy with rfl | hy
        · exact ⟨by show (l.foldl hull2 (hull2 x y)).1 ≤ _; omega, by show _ ≤ (l.foldl hull2 (hull2 x y)).2; omega⟩
        · exact h2 y hy
    intro y hy
    rcases List.mem_cons.1 hy with rfl | hy
    · exact (key l y).1
    · exact (key l x).2 y hy
theorem ins_lin (A : Int → Int × Int) (h n : Int) (n0 : 0 ≤ n) (n1 : n ≤ 3600000) :
    insL A (h * 3600000 + n) = ((A h).1 * (3600000 - n) + (A (h + 1)).1 * n) / 3600000 ∧ insH A (h * 3600000 + n) = cdiv ((A h).2 * (3600000 - n) + (A (h + 1)).2 * n) 3600000 := by
  unfold insL insH
  by_cases e0 : n = 0
  · subst e0
    rw [if_pos (by omega), if_pos (by omega), show (h * 3600000 + 0) / 3600000 = h by omega]
    unfold cdiv; omega
  · by_cases e1 : n = 3600000
    · subst e1
      rw [if_pos (by omega), if_pos (by omega), show (h * 3600000 + 3600000) / 3600000 = h + 1 by omega]
      unfold cdiv; omega
    · rw [if_neg (by omega), if_neg (by omega), show (h * 3600000 + n) / 3600000 = h by omega, show (h * 3600000 + n) % 3600000 = n by omega]
      exact ⟨rfl, rfl⟩
theorem aff_ge {x0 x1 n n1 n2 : Int} (h1 : n1 ≤ n) (h2 : n ≤ n2) : x0 * (3600000 - n1) + x1 * n1 ≤ x0 * (3600000 - n) + x1 * n ∨ x0 * (3600000 - n2) + x1 * n2 ≤ x0 * (3600000 - n) + x1 * n := by
  rcases Int.le_total x0 x1 with h | h
  · left
    have := Int.mul_le_mul_of_nonneg_left h1 (show 0 ≤ x1 - x0 by omega)
    simp only [Int.mul_sub, Int.sub_mul] at *; omega
  · right
    have := Int.mul_le_mul_of_nonneg_left h2 (show 0 ≤ x0 - x1 by omega)
    simp only [Int.mul_sub, Int.sub_mul] at *; omega
theorem aff_le {x0 x1 n n1 n2 : Int} (h1 : n1 ≤ n) (h2 : n ≤ n2) : x0 * (3600000 - n) + x1 * n ≤ x0 * (3600000 - n1) + x1 * n1 ∨ x0 * (3600000 - n) + x1 * n ≤ x0 * (3600000 - n2) + x1 * n2 := by
  rcases Int.le_total x0 x1 with h | h
  · right
    have := Int.mul_le_mul_of_nonneg_left h2 (show 0 ≤ x1 - x0 by omega)
    simp only [Int.mul_sub, Int.sub_mul] at *; omega
  · left
    have := Int.mul_le_mul_of_nonneg_left h1 (show 0 ≤ x0 - x1 by omega)
    simp only [Int.mul_sub, Int.sub_mul] at *; omega
theorem ins_hour (A : Int → Int × Int) (h : Int) : insL A (h * 3600000) = (A h).1 ∧ insH A (h * 3600000) = (A h).2 := by
  unfold insL insH
  rw [if_pos (by omega), if_pos (by omega), show h * 3600000 / 3600000 = h by omega]; exact ⟨rfl, rfl⟩
theorem pcs_at (A : Int → Int × Int) {lo hi e : Int} (h1 : lo ≤ e) (h2 : e ≤ hi) (he : e = lo ∨ e = hi ∨ e % 3600000 = 0) : (hullL (pcs A lo hi)).1 ≤ insL A e ∧ insH A e ≤ (hullL (pcs A lo hi)).2 := by
  by_cases e1 : e = lo
  · subst e1; exact hullL_le (insL A e, insH A e) (by simp [pcs])
  · by_cases e2 : e = hi
    · subst e2; exact hullL_le (insL A e, insH A e) (by simp [pcs])
    · have e3 : e % 3600000 = 0 := by omega
      have hk := ins_hour A (e / 3600000)
      rw [show e / 3600000 * 3600000 = e by omega] at hk
      rw [hk.1, hk.2]
      refine hullL_le (A (e / 3600000)) (List.mem_append.2 (.inr (List.mem_map.2 ⟨(e / 3600000 - (lo / 3600000 + 1)).toNat, List.mem_range.2 ?_, ?_⟩)))
      · unfold nhr cdiv; omega
      · show A _ = _
        rw [show lo / 3600000 + 1 + ((e / 3600000 - (lo / 3600000 + 1)).toNat : Int) = e / 3600000 by omega]
theorem ins_sub (A : Int → Int × Int) {lo hi ms : Int} (h1 : lo ≤ ms) (h2 : ms ≤ hi) : (hullL (pcs A lo hi)).1 ≤ insL A ms ∧ insH A ms ≤ (hullL (pcs A lo hi)).2 := by
  obtain ⟨h, hh⟩ : ∃ h, ms / 3600000 = h := ⟨_, rfl⟩
  have k1 := pcs_at A (lo := lo) (hi := hi) (e := max lo (h * 3600000)) (by omega) (by omega) (by omega)
  have k2 := pcs_at A (lo := lo) (hi := hi) (e := min hi ((h + 1) * 3600000)) (by omega) (by omega) (by omega)
  obtain ⟨n1, hn1⟩ : ∃ n1, max lo (h * 3600000) = h * 3600000 + n1 := ⟨max lo (h * 3600000) - h * 3600000, by omega⟩
  obtain ⟨n2, hn2⟩ : ∃ n2, min hi ((h + 1) * 3600000) = h * 3600000 + n2 := ⟨min hi ((h + 1) * 3600000) - h * 3600000, by omega⟩
  obtain ⟨n, hn⟩ : ∃ n, ms = h * 3600000 + n := ⟨ms - h * 3600000, by omega⟩
  have l1 := ins_lin A h n1 (by omega) (by omega)
  have l2 := ins_lin A h n2 (by omega) (by omega)
  have l := ins_lin A h n (by omega) (by omega)
  rw [hn1, l1.1, l1.2] at k1
  rw [hn2, l2.1, l2.2] at k2
  rw [hn, l.1, l.2]
  have g1 := aff_ge (x0 := (A h).1) (x1 := (A (h + 1)).1) (n := n) (n1 := n1) (n2 := n2) (by omega) (by omega)
  have g2 := aff_le (x0 := (A h).2) (x1 := (A (h + 1)).2) (n := n) (n1 := n1) (n2 := n2) (by omega) (by omega)
  generalize (A h).1 * (3600000 - n) + (A (h + 1)).1 * n = X at *
  generalize (A h).1 * (3600000 - n1) + (A (h + 1)).1 * n1 = X1 at *
  generalize (A h).1 * (3600000 - n2) + (A (h + 1)).1 * n2 = X2 at *
  generalize (A h).2 * (3600000 - n) + (A (h + 1)).2 * n = Y at *
  generalize (A h).2 * (3600000 - n1) + (A (h + 1)).2 * n1 = Y1 at *
  generalize (A h).2 * (3600000 - n2) + (A (h + 1)).2 * n2 = Y2 at *
  unfold cdiv at *
  omega
theorem pcs_sub (A : Int → Int × Int) {lo hi f t : Int} (h1 : lo ≤ f) (h2 : f ≤ t) (h3 : t ≤ hi) : (hullL (pcs A lo hi)).1 ≤ (hullL (pcs A f t)).1 ∧ (hullL (pcs A f t)).2 ≤ (hullL (pcs A lo hi)).2 := by
  refine hullL_ind (P := fun x => (hullL (pcs A lo hi)).1 ≤ x.1 ∧ x.2 ≤ (hullL (pcs A lo hi)).2) (fun x y hx hy => by unfold hull2; dsimp only at *; omega) (pcs_ne _ _ _) fun y hy => ?_
  rcases pcs_mem hy with rfl | rfl | ⟨i, hi', rfl⟩
  · exact ins_sub A h1 (by omega)
  · exact ins_sub A (by omega) h3
  · have hk := ins_hour A (f / 3600000 + 1 + i)
    rw [← hk.1, ← hk.2]
    have := nhr_lt hi'
    exact ins_sub A (by omega) (by omega)
theorem ovr_sub (A : Int → Int × Int) {lo hi f t r : Int} (r0 : 0 ≤ r) (h1 : lo ≤ f) (h2 : f ≤ t) (h3 : t ≤ hi) : (ovr A lo hi r).1 ≤ (ovr A f t r).1 ∧ (ovr A f t r).2 ≤ (ovr A lo hi r).2 := by
  have k := pcs_sub A h1 h2 h3
  have m0 : 0 ≤ cdiv (100 * r) 8 := by unfold cdiv; omega
  unfold ovr
  by_cases c1 : lo = hi ∧ lo % 3600000 = 0
  · have : f = t ∧ f % 3600000 = 0 := by omega
    rw [if_pos c1, if_pos this]; exact k
  · rw [if_neg c1]
    split
    · dsimp only; omega
    · dsimp only; omega
end Go.Proofs.YthjfadfebhjhbaaGreat

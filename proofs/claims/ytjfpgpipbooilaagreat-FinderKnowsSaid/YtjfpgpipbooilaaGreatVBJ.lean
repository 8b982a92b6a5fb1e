/- Contracts and plain laws, several texts in one: Nwa; Nwb; Bnd; Nwc -/
import Derived.Test.YtjfpgpipbooilaaGreatProg
import Derived.WalkKit
import Derived.WalkSpells
import Derived.WalkLawsBesides
import Derived.Lib.Hide
import Derived.BigQuiet
import Derived.Test.YtjfpgpipbooilaaGreatVAA
import Derived.Test.YtjfpgpipbooilaaGreatVAB
import Derived.Test.YtjfpgpipbooilaaGreatVBB
import Derived.Test.YtjfpgpipbooilaaGreatVBG
import Derived.Test.YtjfpgpipbooilaaGreatVBI
/- almanac.New in full: the ways out ahead of the loop. -/
namespace Go.Proofs.YtjfpgpipbooilaaGreat
open Go.RowKit Go.Shelf

noncomputable def badP (l : List PgV) : Bool := l.any fun p => !pgB p
def twS (T : List ByteArray) (s : ByteArray) : Bool := isA s || Lib.containsS T s
set_option maxHeartbeats 1000000 in
theorem alm_New2 (x : StarV) (T : List ByteArray) (vt : Value) (b : Nat) (w : World) (hb : b < w.heap.size) (hc : w.cell? ⟨b, 0, none⟩ = some vt) (hT : SlG strR w vt T) :
    Calls Tryz.prog 62 #[.agg #[.string x.s, .int .i64 x.sha, .int .i64 x.dec, .int .i64 x.mag], .pointer (some ⟨b, 0, none⟩)] w fun e w' => e = .returned (.bool (twS T x.s)) ∧ ∃ d, w' = bw w d := by
  obtain ⟨xs, x1, x2, x3⟩ := x
  dsimp only
  have HT := Lib.hid (fun L => str_Contains vt T xs (lay w L) (hT.lay L))
  have ho : isA xs = (xs.toList == [65, 114, 105, 101, 115]) := rfl
  unfold twS
  obtain ⟨ta, tc, rfl⟩ := hT.form
  generalize T.length = n at *
  generalize Lib.containsS T xs = r at *
  clear hT
  cases h : isA xs
  all_goals
    rw [h] at ho
    have t1 := ho.symm
    clear ho h
    refine lay_start ?_
    go_enter Tryz.func62, Tryz.ntmps62
    go_wp2_with (go_at_call 14; refine (HT.out _).mono ?_; rintro e w' ⟨rfl, rfl⟩)
    go_ret
    exact ⟨rfl, lay_ex _ _⟩
end Go.Proofs.YtjfpgpipbooilaaGreat
/- almanac.New in full: the book while its days are put in. -/
namespace Go.Proofs.YtjfpgpipbooilaaGreat
open Go.RowKit Go.Shelf

def dysL (l : List PgV) : List Int := l.map fun p => numI p.y p.m p.d
def OrdK (l : List PgV) (k : Nat) : Prop := ∀ (i : Nat) p q, i + 1 < k → l[i]? = some p → l[i + 1]? = some q → numI p.y p.m p.d < numI q.y q.m q.d
structure NwI (w : World) (bk H : Nat) (vp vs vd : Value) (lp : List PgV) (ls : List StarV) (k : Nat) (W : World) (d : Ext) : Prop where
  size : W.heap.size = H
  below : Below w.heap.size w W
  bk0 : w.heap.size ≤ bk
  bk1 : bk < H
  c0 : W.cell? ⟨bk, 0, none⟩ = some vd
  c1 : W.cell? ⟨bk, 1, none⟩ = some vp
  c2 : W.cell? ⟨bk, 2, none⟩ = some vs
  fz : W.frozen? ⟨bk, 0, none⟩ = false
  row : Ow (bw W d) H vd ((dysL lp).take k)
  pgs : PgsD (fun b => w.heap.size ≤ b ∧ b ≠ bk) W vp lp
  sts : SlG stR W vs ls
  stb : Blk (fun b => w.heap.size ≤ b ∧ b ≠ bk) vs
theorem NwI.step {w : World} {bk H : Nat} {vp vs vd : Value} {lp : List PgV} {ls : List StarV} {k : Nat} {W : World} {d : Ext} (h : NwI w bk H vp vs vd lp ls k W d) {vd' : Value} {d' : Ext} {k' : Nat} (hr : Ow (bw W d') H vd' ((dysL lp).take k')) :
    NwI w bk H vp vs vd' lp ls k' (W.setCell ⟨bk, 0, none⟩ vd') d' := by
  have hb : bk < W.heap.size := by rw [h.size]; exact h.bk1
  have ho : ∀ b, (w.heap.size ≤ b ∧ b ≠ bk) → b < W.heap.size → (W.setCell ⟨bk, 0, none⟩ vd').heap[b]? = W.heap[b]? := fun b hb _ => heap_setCell_other _ ⟨bk, 0, none⟩ b _ hb.2
  refine ⟨by rw [World.size_setCell]; exact h.size, h.below.setCell h.bk0 _, h.bk0, h.bk1, World.cell?_setCell_same _ _ _ h.c0, ?_, ?_, ?_, ?_, ?_, ?_, h.stb⟩
  · exact (World.cell?_setCell_other _ _ _ _ (by intro e; cases e)).trans h.c1
  · exact (World.cell?_setCell_other _ _ _ _ (by intro e; cases e)).trans h.c2
  · rw [World.frozen?_setCell]; exact h.fz
  · rw [← bw_setCell W d' bk 0 vd' hb]
    exact ⟨ownsRow_setCell_below hr.1 h.bk1 _, hr.2⟩
  · exact h.pgs.keep (by rw [World.size_setCell]; exact Nat.le_refl _) ho
  · exact slG_keep h.sts h.stb (by rw [World.size_setCell]; exact Nat.le_refl _) ho
structure BkA (w : World) (bk : Nat) (lp : List PgV) (ls : List StarV) (W : World) : Prop where
  bk0 : w.heap.size ≤ bk
  ex : ∃ vd vp vs, Bk W bk vd vp vs ∧ Sl W vd (dysL lp) ∧ Blk (fun b => w.heap.size ≤ b ∧ b ≠ bk) vd ∧ PgsD (fun b => w.heap.size ≤ b ∧ b ≠ bk) W vp lp ∧ SlG stR W vs ls ∧ Blk (fun b => w.heap.size ≤ b ∧ b ≠ bk) vs
def NewPost (w : World) (lp : List PgV) (ls : List StarV) (e : Ending) (w' : World) : Prop :=
  ∃ bk d, e = .returned (.tuple #[.pointer (some ⟨bk, 0, none⟩), .int .i64 0]) ∧ w' = bw w d ∧ BkA w bk lp ls (bw w d)
theorem ow_blk {W : World} {H : Nat} {v : Value} {l : List Int} (h : Ow W H v l) : Blk (fun b => H ≤ b) v := fun b o n c e hn => by
  rcases h.1.2 with ⟨h1, _⟩ | ⟨g, cap, cur, h1, h2, _⟩
  · rw [h1] at e; cases e
  · rw [h1] at e; cases e; exact h2
end Go.Proofs.YtjfpgpipbooilaaGreat
/- The blocks that a reading met lie in the world. -/
namespace Go.Proofs.YtjfpgpipbooilaaGreat
open Go.RowKit

theorem LsP.bound {P : Nat → Prop} {w : World} {v : Value} {l : List Int} (h : LsP P w v l) : LsP (fun b => P b ∧ b < w.heap.size) w v l := by
  refine ⟨h.1, fun b o n c e hn => ⟨h.2 b o n c e hn, ?_⟩⟩
  obtain ⟨a, c', e1, _, _, h3⟩ := h.1
  obtain ⟨rfl, rfl, rfl⟩ := Value.slice.inj (e.symm.trans e1)
  obtain ⟨b', o', e2, h5, _⟩ := h3 (by intro h; rw [h] at hn; exact Nat.lt_irrefl 0 hn)
  cases e2; exact h5
theorem slG_bound {α : Type} {R : RecT α} {P : Nat → Prop} {w : World} {v : Value} {l : List α} (h : SlG R w v l) (hb : Blk P v) : Blk (fun b => P b ∧ b < w.heap.size) v := fun b o n c e hn => by
  refine ⟨hb b o n c e hn, ?_⟩
  obtain ⟨a, c', e1, _, _, h3⟩ := h
  obtain ⟨rfl, rfl, rfl⟩ := Value.slice.inj (e.symm.trans e1)
  obtain ⟨b', o', e2, h5, _⟩ := h3 (by intro h; rw [h] at hn; exact Nat.lt_irrefl 0 hn)
  cases e2; exact h5
theorem TkD.bound {P : Nat → Prop} {w : World} {x : TkW} {t : TrkV} (h : TkD P w x t) : TkD (fun b => P b ∧ b < w.heap.size) w x t := ⟨h.s, h.g.bound, h.d.bound, h.p, h.q, h.r⟩
theorem TksD.bound {P : Nat → Prop} {w : World} {v : Value} {l : List TrkV} (h : TksD P w v l) : TksD (fun b => P b ∧ b < w.heap.size) w v l := by
  obtain ⟨ls, h1, h2, h3, h4⟩ := h
  exact ⟨ls, h1, slG_bound h1 h2, h3, fun i x t a b => (h4 i x t a b).bound⟩
theorem PgD.bound {P : Nat → Prop} {w : World} {x : PgW} {t : PgV} (h : PgD P w x t) : PgD (fun b => P b ∧ b < w.heap.size) w x t := ⟨h.y, h.m, h.d, h.ts.bound⟩
theorem PgsD.bound {P : Nat → Prop} {w : World} {v : Value} {l : List PgV} (h : PgsD P w v l) : PgsD (fun b => P b ∧ b < w.heap.size) w v l := by
  obtain ⟨ls, h1, h2, h3, h4⟩ := h
  exact ⟨ls, h1, slG_bound h1 h2, h3, fun i x t a b => (h4 i x t a b).bound⟩
theorem owG_blk {α : Type} {R : RecT α} {W : World} {H : Nat} {v : Value} {l : List α} (h : OwG R W H v l) : Blk (fun b => H ≤ b) v := fun b o n c e hn => by
  rcases h.1.2 with ⟨h1, _⟩ | ⟨g, cap, cur, h1, h2, _⟩
  · rw [h1] at e; cases e
  · rw [h1] at e; cases e; exact h2
theorem PgsD.lay_on {P : Nat → Prop} {w : World} {v : Value} {l : List PgV} {A B : List (Obj ⊕ Ext)} (h : PgsD P (Go.Proofs.YtjfpgpipbooilaaGreat.lay w B) v l) : PgsD P (Go.Proofs.YtjfpgpipbooilaaGreat.lay w (A ++ B)) v l := h.keep lay_belowG.size fun b _ hb => lay_belowG.block b hb
theorem nwI_new (w : World) (L4 L3 : List (Obj ⊕ Ext)) (t : TypeId) (vp vs : Value) (lp : List PgV) (ls : List StarV)
    (hp : PgsD (fun b => w.heap.size ≤ b) (lay w L3) vp lp) (hs : OwG stR (lay w (L4 ++ L3)) w.heap.size vs ls) :
    NwI w (posn w (shp (L4 ++ L3))) (lay w (.inl (.cells #[.slice none 0 0, vp, vs] t (0, 0)) :: (L4 ++ L3))).heap.size vp vs (.slice none 0 0) lp ls 0 (lay w (.inl (.cells #[.slice none 0 0, vp, vs] t (0, 0)) :: (L4 ++ L3))) (noExt (lay w (.inl (.cells #[.slice none 0 0, vp, vs] t (0, 0)) :: (L4 ++ L3)))) := by
  obtain ⟨b0, b1, b2, b3⟩ := bk_new0 w (L4 ++ L3) t (.slice none 0 0) vp vs
  have hz : posn w (shp (L4 ++ L3)) = (lay w (L4 ++ L3)).heap.size := (lay_size w (L4 ++ L3)).symm
  have hle : w.heap.size ≤ (lay w (L4 ++ L3)).heap.size := (lay_extends w _).size
  have h3 : (lay w L3).heap.size ≤ (lay w (L4 ++ L3)).heap.size := (lay_belowG (A := L4) (B := L3)).size
  refine ⟨rfl, lay_extends w _, by rw [hz]; exact hle, b0, b1, b2, b3, ?_, ?_, ?_, ?_, ?_⟩
  · have h := lay_get w (.inl (.cells #[.slice none 0 0, vp, vs] t (0, 0)) :: (L4 ++ L3)) 0 _ rfl
    unfold World.frozen?
    rw [show posn w (shp (L4 ++ L3)) = posn w ((shp (.inl (.cells #[.slice none 0 0, vp, vs] t (0, 0)) :: (L4 ++ L3))).drop (0 + 1)) from rfl, h]
    rfl
  · rw [bw_noExt]; exact Ow.nil _ _
  · have := (hp.bound.lay_on (A := .inl (.cells #[.slice none 0 0, vp, vs] t (0, 0)) :: L4))
    exact this.mono fun b hb => ⟨hb.1, by rw [hz]; omega⟩
  · exact (hs.sl stOk).lay [.inl _]
  · exact (slG_bound (hs.sl stOk) (owG_blk hs)).mono fun b hb => ⟨hb.1, by rw [hz]; omega⟩
end Go.Proofs.YtjfpgpipbooilaaGreat
/- almanac.New in full. -/
namespace Go.Proofs.YtjfpgpipbooilaaGreat
open Go.RowKit Go.Shelf

noncomputable def twB (lp : List PgV) (ls : List StarV) : Bool := Lib.containsS (tkL lp) ariesS || ls.any (fun x => twS (tkL lp) x.s)
def NewAll (w : World) (lp : List PgV) (ls : List StarV) (e : Ending) (w' : World) : Prop :=
  (OrdK lp lp.length ∧ twB lp ls = false ∧ NewPost w lp ls e w') ∨
  (OrdK lp lp.length ∧ twB lp ls = true ∧ e = .returned (.tuple #[.pointer none, .int .i64 10]) ∧ ∃ d, w' = bw w d) ∨
  (¬ OrdK lp lp.length ∧ e = .returned (.tuple #[.pointer none, .int .i64 17]) ∧ ∃ d, w' = bw w d)
theorem bad_all {lp : List PgV} (h : badP lp = false) : ∀ p ∈ lp, PgOk p := fun p hp => by
  unfold badP at h
  rw [List.any_eq_false] at h
  have := h p hp
  simpa [pgB_iff] using this
theorem bw_lay {w W : World} (h : Below w.heap.size w W) (L : List (Obj ⊕ Ext)) : ∃ d, lay W L = bw w d := by
  obtain ⟨d, rfl⟩ := bw_of h
  obtain ⟨e, he⟩ := lay_ex (bw w d) L
  exact ⟨_, he.trans (bw_bw _ _ _)⟩
theorem NwI.book {w : World} {bk H : Nat} {vp vs vd : Value} {lp : List PgV} {ls : List StarV} {k : Nat} {W : World} {d : Ext} (h : NwI w bk H vp vs vd lp ls k W d) (hk : lp.length ≤ k) (A : List (Obj ⊕ Ext)) {z : Ext} (hz : lay W (A ++ [.inr d]) = bw w z) : BkA w bk lp ls (bw w z) := by
  rw [← hz]
  have hr := h.row
  rw [List.take_of_length_le (by unfold dysL; rw [List.length_map]; exact hk)] at hr
  have hS : w.heap.size ≤ H := by rw [← h.size]; exact h.below.size
  exact ⟨h.bk0, vd, vp, vs, (show Bk W bk vd vp vs from ⟨by rw [h.size]; exact h.bk1, h.c0, h.c1, h.c2⟩).lay _, sl_on (A := A) (B := [.inr d]) hr.sl, (ow_blk hr).mono fun b hb => ⟨Nat.le_trans hS hb, by have := h.bk1; omega⟩, h.pgs.lay _, h.sts.lay _, h.stb⟩
theorem ow_form' {w : World} {base : Nat} {v : Value} {l : List Int} (h : Ow w base v l) : ∃ a n c, v = .slice a n c := by
  obtain ⟨a, c, e⟩ := h.form
  exact ⟨a, _, c, e⟩
set_option maxHeartbeats 4000000 in
set_option maxRecDepth 100000 in
theorem alm_New_main {P : Nat → Prop} (vp vs : Value) (lp : List PgV) (ls : List StarV) (w : World) (hp : PgsD P w vp lp) (hP : ∀ b, P b → b < w.heap.size) (hv : SlG stR w vs ls) (h : lp.length ≤ 40) (hb : badP lp = false) (hc : catB ls = true) :
    Calls Tryz.prog 23 #[vp, vs] w (NewAll w lp ls) := by
  have hok := bad_all hb
  have hlen := (catB_iff.1 hc).len
  have HOk := Lib.hid hok
  have HC := Lib.hid (fun L => cat_Valid vs ls (lay w L) (hv.lay L))
  rw [hc] at HC
  have HB := Lib.hid (fun L => pgs_bad vp lp (lay w L) (hp.lay L))
  change Hid (∀ L, Calls _ _ _ _ fun e w' => e = .returned (.bool (badP lp)) ∧ _) at HB
  rw [hb] at HB
  have HCp := Lib.hid (fun L => alm_copied vp lp (lay w L) (hp.lay L) (fun b hb => Nat.lt_of_lt_of_le (hP b hb) (lay_extends w L).size) (by omega) (fun p hpm => by have := (hok p hpm).len; omega) (fun p hpm t ht => by
    obtain ⟨i, hi, rfl⟩ := List.getElem_of_mem ht
    have := (hok p hpm).ok i p.ts[i] (List.getElem?_eq_getElem hi)
    have h1 := (trkB_iff.1 this.1).lg
    have h2 := (trkB_iff.1 this.1).ld
    omega))
  have HCl := Lib.hid (fun L => cln_Star vs ls (lay w L) (hv.lay L) (by omega))
  have HPg := Lib.hid hp
  have HVs := Lib.hid hv
  obtain ⟨a, c, rfl⟩ := pgs_form hp
  obtain ⟨q, hq⟩ : ∃ q, lp.length = q := ⟨_, rfl⟩
  have HQ := Lib.hid hq
  rw [hq] at h HB HCp HPg ⊢
  have x1 : ¬ (40 : Int) < (q : Int) := by omega
  clear hp hq hv hok hlen hb hc
  refine lay_start ?_
  go_enter Tryz.func23, Tryz.ntmps23
  go_wp2_with (first | (go_at_call 54; refine (HB.out _).mono ?_; rintro e w' ⟨rfl, d1, rfl⟩) | (go_at_call 57; refine (HC.out _).mono ?_; rintro e w' ⟨rfl, d2, rfl⟩))
  refine (HCp.out _).mono ?_
  rintro e w' ⟨A, cA, d3, rfl, rfl, hA⟩
  rw [lay_bw] at hA ⊢
  have HA := Lib.hid hA
  clear hA
  go_wp2_with fail
  refine (HCl.out _).mono ?_
  rintro e w' ⟨v', d4, rfl, rfl, h4⟩
  rw [lay_bw] at h4 ⊢
  obtain ⟨va, vc, rfl⟩ := h4.form
  have H4 := Lib.hid h4
  clear h4
  rw [HQ.out] at HA ⊢
  go_wp2_with fail
  obtain ⟨bk, hbk⟩ : ∃ bk, posn w [d4.n, d3.n, d2.n, d1.n] = bk := ⟨_, rfl⟩
  obtain ⟨W0, hW0⟩ : ∃ W0, lay w [.inl (.cells #[.slice none 0 0, .slice A q cA, .slice va ls.length vc] 91 (0, 0)), .inr d4, .inr d3, .inr d2, .inr d1] = W0 := ⟨_, rfl⟩
  have hI : NwI w bk W0.heap.size (.slice A q cA) (.slice va ls.length vc) (.slice none 0 0) lp ls 0 W0 (noExt W0) := by
    rw [← hbk, ← hW0]
    exact nwI_new w [.inr d4] [.inr d3, .inr d2, .inr d1] _ _ _ lp ls (HA.out.mono fun b hb => Nat.le_trans (lay_extends w [.inr d2, .inr d1]).size hb) (H4.out.le (lay_extends w [.inr d3, .inr d2, .inr d1]).size)
  have HI := Lib.hid hI
  rw [hbk, hW0]
  obtain ⟨H, hH⟩ : ∃ H, W0.heap.size = H := ⟨_, rfl⟩
  rw [hH] at HI
  clear hI hbk hW0 HA H4 hH
  go_loopw [30] (fun v30 wr => ∃ (i : Nat) (d : Ext) (W : World) (vd : Value), i ≤ q ∧ v30 = .int .i64 (i : Int) ∧ wr = lay W [.inr d] ∧ NwI w bk H (.slice A q cA) (.slice va ls.length vc) vd lp ls i W d ∧ OrdK lp i) (fun v30 _ => q - (intOf v30).toNat)
  case atStart => exact ⟨0, noExt W0, W0, _, Nat.zero_le _, rfl, (bw_noExt W0).symm, HI.out, fun i p q hi => absurd hi (by omega)⟩
  case round =>
    clear HI
    obtain ⟨i, d, W, vd, hi, rfl, rfl, hI, hO⟩ := hrel
    have HI := Lib.hid hI
    have HO := Lib.hid hO
    clear hI hO
    by_cases hlt : i < q
    · obtain ⟨p, hpp⟩ : ∃ p, lp[i]? = some p := ⟨_, List.getElem?_eq_getElem (by rw [HQ.out]; exact hlt)⟩
      have hpW : PgsD P W (.slice a q c) lp := HPg.out.keep HI.out.below.size (fun b _ hb => HI.out.below.block b hb)
      obtain ⟨b, o, cap, hv1, hcc, hbb, -, hr⟩ := hpW.open (by rw [HQ.out]; omega)
      rw [HQ.out] at hv1 hcc
      cases hv1
      obtain ⟨x, hw, hD, c0, c1, c2, c3⟩ := hr i p hpp
      have hok := HOk.out p (List.mem_of_getElem? hpp)
      have HNum := Lib.hid (fun L => cal_Number x.y x.m x.d (lay W L))
      have hdx := hok.dt
      rw [← hD.y, ← hD.m, ← hD.d] at hdx
      rw [hdx, if_pos rfl, if_pos rfl] at HNum
      have x2 : (i : Int) < (q : Int) := by omega
      have x3 : (0 : Int) ≤ (i : Int) := by omega
      clear hpW hr
      go_wp2_with fail
      refine (HNum.out _).mono ?_
      rintro e w' ⟨rfl, d5, rfl⟩
      obtain ⟨N0, hN0⟩ : ∃ N0, numI x.y x.m x.d = N0 := ⟨_, rfl⟩
      have HN0 := Lib.hid hN0
      rw [lay_bw, hN0]
      clear hN0 hdx
      have k0 := HI.out.c0
      have kz := HI.out.fz
      have kb : bk < W.heap.size := by rw [HI.out.size]; exact HI.out.bk1
      have HR0 : Hid (Ow (lay W [.inr d]) W.heap.size vd ((dysL lp).take i)) := Lib.hid (by rw [HI.out.size]; exact HI.out.row)
      have HRl : Hid (((dysL lp).take i).length ≤ 1000000000) := Lib.hid (by rw [List.length_take]; omega)
      have HNw : Hid ((Lit.int .i64 N0).wf = true) := Lib.hid (by
        have h1 := hok.lo
        have h2 := hok.hi
        rw [← hD.y, ← hD.m, ← hD.d, HN0.out] at h1 h2
        simp [Lit.wf, IntKind.min, IntKind.max, IntKind.bits, IntKind.signed]
        omega)
      have HTk : Hid ((dysL lp).take i ++ [N0] = (dysL lp).take (i + 1)) := Lib.hid (by
        rw [List.take_add_one]
        have : (dysL lp)[i]? = some N0 := by unfold dysL; rw [List.getElem?_map, hpp, ← HN0.out, hD.y, hD.m, hD.d]; rfl
        rw [this]; rfl)
      by_cases hi0 : i = 0
      · subst hi0
        have x4 : ¬ (0 : Int) < ((0 : Nat) : Int) := by decide
        go_wp2_with (at_builtin; refine push_int rfl _ _ rfl (lay W []) _ N0 3 (posn W [d5.n, 1, d.n]) vd _ (lay_below (A := [_, _, _, _]) (B := [])) (ow_on (A := [_, _, _]) HR0.out) (lay_get W _ 0 _ rfl) rfl rfl HRl.out HNw.out ?_; intro vd' d' hv'; obtain ⟨ga, gn, gc, eg⟩ := ow_form' hv'; subst eg; have HV' := Lib.hid hv'; clear hv')
        go_roundw
        case rel => exact ⟨1, d', W.setCell ⟨bk, 0, none⟩ (.slice ga gn gc), _, by omega, rfl, bw_setCell W d' bk 0 _ kb, HI.out.step (by have h := HV'.out; rw [HTk.out] at h; rw [← HI.out.size]; exact h), fun j p q hj => absurd hj (by omega)⟩
        case measure => simp [intOf]; omega
      · obtain ⟨j, rfl⟩ : ∃ j, i = j + 1 := ⟨i - 1, by omega⟩
        obtain ⟨p0, hp0⟩ : ∃ p0, lp[j]? = some p0 := ⟨_, List.getElem?_eq_getElem (by rw [HQ.out]; omega)⟩
        have hlr : ((dysL lp).take (j + 1)).length = j + 1 := by rw [List.length_take]; unfold dysL; rw [List.length_map, HQ.out]; omega
        obtain ⟨g, cap', hvd, hg1, hg2, hg3, hg4⟩ := HR0.out.form1 (by omega)
        rw [hlr] at hvd hg3
        obtain ⟨N1, hN1⟩ : ∃ N1, numI p0.y p0.m p0.d = N1 := ⟨_, rfl⟩
        have hnth : nth ((dysL lp).take (j + 1)) j = N1 := by
          have : ((dysL lp).take (j + 1))[j]? = some N1 := by
            rw [List.getElem?_take_of_lt (by omega)]
            unfold dysL; rw [List.getElem?_map, hp0, ← hN1]; rfl
          unfold nth
          rw [List.getD, this]; rfl
        have e1 : ∀ A, (lay W (A ++ [.inr d])).cell? ⟨g, j, none⟩ = some (.int .i64 N1) := fun A => by
          have h := (ow_on (A := A) HR0.out)
          rw [hvd] at h
          have := h.cell (i := j) (by omega)
          rw [hnth] at this
          exact this
        have e2 := e1 [.inr d5, .inl (.cells #[.int .i64 x.y, .int .i64 x.m, .int .i64 x.d, .slice x.ta x.tn x.tc] 112 (0, 0))]
        change (lay W [.inr d5, .inl (.cells #[.int .i64 x.y, .int .i64 x.m, .int .i64 x.d, .slice x.ta x.tn x.tc] 112 (0, 0)), .inr d]).cell? ⟨g, j, none⟩ = some (.int .i64 N1) at e2
        have HE1 := Lib.hid e1
        have HN1 := Lib.hid hN1
        have HP0 := Lib.hid hp0
        subst hvd
        clear e1 hN1 hp0 hnth hlr
        have x4 : (0 : Int) < (j : Int) + 1 := by omega
        have x5 : IntKind.i64.wrap ((j : Int) + 1 - 1) = (j : Int) := by rw [IntWalk.i64_in _ (by omega)]; omega
        have x6 : (0 : Int) ≤ (j : Int) := by omega
        have x7 : (j : Int) < (j : Int) + 1 := by omega
        have x8 : ((j + 1 : Nat) : Int) = (j : Int) + 1 := by omega
        rw [x8]
        rw [x8] at x2 x3
        by_cases hle : N0 ≤ N1
        · have HNo : Hid (¬ OrdK lp lp.length) := Lib.hid (fun h => by
            have := h j p0 p (by rw [HQ.out]; omega) HP0.out hpp
            rw [HN1.out, ← hD.y, ← hD.m, ← hD.d, HN0.out] at this
            omega)
          go_wp2_with fail
          exact bodyPost_ret (v := .tuple #[.pointer none, .int .i64 17]) (by simp [results, Tryz.results23, go_sem]) rfl (.inr (.inr ⟨HNo.out, rfl, bw_lay HI.out.below _⟩))
        · have hgt : N1 < N0 := by omega
          go_wp2_with (at_builtin; refine push_int rfl _ _ rfl (lay W []) _ N0 3 (posn W [d5.n, 1, d.n]) _ _ (lay_below (A := [_, _, _, _]) (B := [])) (ow_on (A := [_, _, _]) HR0.out) (lay_get W _ 0 _ rfl) rfl rfl HRl.out HNw.out ?_; intro vd' d' hv'; obtain ⟨ga, gn, gc, eg⟩ := ow_form' hv'; subst eg; have HV' := Lib.hid hv'; clear hv')
          go_roundw
          case rel => exact ⟨j + 2, d', W.setCell ⟨bk, 0, none⟩ (.slice ga gn gc), _, by omega, by go_num, bw_setCell W d' bk 0 _ kb, HI.out.step (by have h := HV'.out; rw [HTk.out] at h; rw [← HI.out.size]; exact h), fun u p' q' hu h1 h2 => by
            by_cases huj : u = j
            · subst huj
              rw [HP0.out] at h1; cases h1
              rw [hpp] at h2; cases h2
              rw [HN1.out, ← hD.y, ← hD.m, ← hD.d, HN0.out]; exact hgt
            · exact HO.out u p' q' (by omega) h1 h2⟩
          case measure => simp [intOf]; omega
    · have hiq : i = q := by omega
      have x2 : ¬ (i : Int) < (q : Int) := by omega
      have HOr : Hid (OrdK lp lp.length) := Lib.hid (by rw [HQ.out, ← hiq]; exact HO.out)
      have hF : Few lp := ⟨by rw [HQ.out]; omega, fun p hp => by have := (HOk.out p hp).len; omega⟩
      have hB : Bk W bk vd (.slice A q cA) (.slice va ls.length vc) := ⟨by rw [HI.out.size]; exact HI.out.bk1, HI.out.c0, HI.out.c1, HI.out.c2⟩
      have HT := Lib.hid (alm_tracked bk vd (.slice A q cA) (.slice va ls.length vc) lp (lay W [.inr d]) (hB.lay _) (HI.out.pgs.lay _) hF)
      clear hF hB
      go_wp2_with fail
      refine HT.out.mono ?_
      rintro e w' ⟨ta, tc, d6, rfl, rfl, hTn, hTs⟩
      rw [lay_bw] at hTs ⊢
      have HTs := Lib.hid hTs
      clear hTs hTn
      go_wp2_with fail
      have HCn := Lib.hid (str_Contains (.slice ta (tkL lp).length tc) (tkL lp) ariesS (lay W [.inl (.cells #[.slice ta (tkL lp).length tc] 38 (0, 0)), .inr d6, .inr d]) (slG_on (A := [_]) HTs.out))
      have eI : ∀ args w, (callFunc 62 args).run Tryz.prog w = .ok (.enter 62 args) w := enters_of Tryz.func62 (by kernel_rfl) rfl
      have HSt := Lib.hid (st_ContainsFunc 62 [.pointer (some ⟨posn W [d6.n, d.n], 0, none⟩)] (fun x => twS (tkL lp) x.s) vs ls (lay W [.inl (.cells #[.slice ta (tkL lp).length tc] 38 (0, 0)), .inr d6, .inr d]) ((HVs.out.ext HI.out.below).lay _) eI (fun x _ e =>
        (alm_New2 x (tkL lp) (.slice ta (tkL lp).length tc) (posn W [d6.n, d.n]) (lay W [.inr e, .inl (.cells #[.slice ta (tkL lp).length tc] 38 (0, 0)), .inr d6, .inr d]) (by simp only [lay_size, shp, posn, List.sum_cons, List.sum_nil]; omega) (by simp [go_sem]) (slG_on (A := [_, _]) HTs.out)).mono fun e w' ⟨h1, d2, h2⟩ => ⟨h1, _, h2.trans (bw_bw _ _ _)⟩))
      have HTw : Hid (twB lp ls = (Lib.containsS (tkL lp) ariesS || ls.any (fun x => twS (tkL lp) x.s))) := Lib.hid rfl
      clear eI
      generalize Lib.containsS (tkL lp) ariesS = r1 at *
      generalize ls.any (fun x => twS (tkL lp) x.s) = r2 at *
      go_wp2_with fail
      refine HCn.out.mono ?_
      rintro e w' ⟨rfl, rfl⟩
      cases r1
      · go_wp2_with fail
        refine HSt.out.mono ?_
        rintro e w' ⟨rfl, d7, rfl⟩
        cases r2
        · go_wp2_with fail
          obtain ⟨z, hz⟩ := bw_lay HI.out.below [.inr d7, .inl (.cells #[.slice ta (tkL lp).length tc] 38 (0, 0)), .inr d6, .inr d]
          exact bodyPost_ret (v := .tuple #[.pointer (some ⟨bk, 0, none⟩), .int .i64 0]) (by simp [results, Tryz.results23, go_sem]) rfl (.inl ⟨HOr.out, HTw.out, bk, z, rfl, hz, HI.out.book (by rw [HQ.out]; omega) [.inr d7, .inl (.cells #[.slice ta (tkL lp).length tc] 38 (0, 0)), .inr d6] hz⟩)
        · go_wp2_with fail
          exact bodyPost_ret (v := .tuple #[.pointer none, .int .i64 10]) (by simp [results, Tryz.results23, go_sem]) rfl (.inr (.inl ⟨HOr.out, HTw.out, rfl, bw_lay HI.out.below _⟩))
      · go_wp2_with fail
        exact bodyPost_ret (v := .tuple #[.pointer none, .int .i64 10]) (by simp [results, Tryz.results23, go_sem]) rfl (.inr (.inl ⟨HOr.out, HTw.out, rfl, bw_lay HI.out.below _⟩))
end Go.Proofs.YtjfpgpipbooilaaGreat

/- Contracts and plain laws, several texts in one: Sid1; Sid2; Sid3; Sid4; Sid5; Alm1; Alm3; Sta2; Alm4; Sta3 -/
import Derived.Test.YtcbicpbbjbkiaaaGreatDoorProg
import Derived.WalkKit
import Derived.WalkSpells
import Derived.WalkLawsBesides
import Derived.Lib.Hide
import Derived.BigQuiet
import Derived.Test.YtcbicpbbjbkiaaaGreatDoorZmAA
import Derived.Test.YtcbicpbbjbkiaaaGreatDoorZmAC
import Derived.Test.YtcbicpbbjbkiaaaGreatDoorZmAD
import Derived.Test.YtcbicpbbjbkiaaaGreatDoorZmAF
import Derived.Test.YtcbicpbbjbkiaaaGreatDoorZmAG
namespace Go.Proofs.YtcbicpbbjbkiaaaGreatDoor
open Go.RowKit
end Go.Proofs.YtcbicpbbjbkiaaaGreatDoor
namespace Go.Proofs.YtcbicpbbjbkiaaaGreatDoor
open Go.RowKit
end Go.Proofs.YtcbicpbbjbkiaaaGreatDoor
namespace Go.Proofs.YtcbicpbbjbkiaaaGreatDoor
open Go.RowKit
end Go.Proofs.YtcbicpbbjbkiaaaGreatDoor
namespace Go.Proofs.YtcbicpbbjbkiaaaGreatDoor
open Go.RowKit

end Go.Proofs.YtcbicpbbjbkiaaaGreatDoor
namespace Go.Proofs.YtcbicpbbjbkiaaaGreatDoor
set_option maxHeartbeats 1000000
open Go.RowKit Go.Shelf

def numB (a b c : Int) : Bool := decide ((0 ≤ a ∧ a ≤ 215999) ∧ (-54000 ≤ b ∧ b ≤ 54000) ∧ -20 ≤ c ∧ c ≤ 150)
theorem cat_numbers (s : ByteArray) (a b c : Int) (w : World) :
  Calls Tryz.prog 120 #[.agg #[.string s, .int .i64 a, .int .i64 b, .int .i64 c]] w fun e w' => e = .returned (.bool (numB a b c)) ∧ ∃ d, w' = bw w d := by
 refine lay_start ?_
 go_enter Tryz.func120, Tryz.ntmps120
 go_wp2
 all_goals go_ret
 all_goals exact ⟨ret_bool (by first | (simp [numB, *]; done) | (rw [Bool.eq_iff_iff]; simp [numB, *]; done) | (rw [Bool.eq_iff_iff]; simp [numB]; omega)), lay_ex _ _⟩
def nmB (a b : ByteArray) : Bool := a.toList == b.toList
theorem cat_index1 (x : StarV) (s : ByteArray) (b : Nat) (w : World) (hb : b < w.heap.size) (hc : w.cell? ⟨b, 0, none⟩ = some (.string s)) :
  Calls Tryz.prog 205 #[.agg #[.string x.s, .int .i64 x.sha, .int .i64 x.dec, .int .i64 x.mag], .pointer (some ⟨b, 0, none⟩)] w fun e w' => e = .returned (.bool (nmB x.s s)) ∧ ∃ d, w' = bw w d := by
 obtain ⟨xs, x1, x2, x3⟩ := x
 dsimp only
 refine lay_start ?_
 go_enter Tryz.func205, Tryz.ntmps205
 go_wp2
 go_ret
 exact ⟨rfl, lay_ex _ _⟩
def fndS (l : List StarV) (s : ByteArray) : Int := idxR (fun x => nmB x.s s) l 0
theorem cat_index (v : Value) (l : List StarV) (s : ByteArray) (w : World) (hv : SlG stR w v l) :
  Calls Tryz.prog 121 #[v, .string s] w (IdxPost w (fndS l s)) := by
 have eI : ∀ args w, (callFunc 205 args).run Tryz.prog w = .ok (.enter 205 args) w := enters_of Tryz.func205 (by kernel_rfl) rfl
 have H := Lib.hid (st_IndexFunc 205 [.pointer (some ⟨posn w [], 0, none⟩)] (fun x => nmB x.s s) v l (lay w [.inl (.cells #[.string s] 9 (0, 0))]) (hv.lay _) eI (fun x _ d =>
  cat_index1 x s (posn w []) (lay w [.inr d, .inl (.cells #[.string s] 9 (0, 0))]) (by simp only [lay_size, shp, posn, List.sum_cons, List.sum_nil, Ext.n]; omega) (by simp [go_sem]) |>.mono fun e w' ⟨h1, d2, h2⟩ => ⟨h1, _, h2.trans (bw_bw _ _ _)⟩))
 obtain ⟨a, c, rfl⟩ := hv.form
 unfold fndS
 generalize idxR (fun x => nmB x.s s) l 0 = I at *
 generalize l.length = m at *
 clear eI hv
 refine lay_start ?_
 go_enter Tryz.func121, Tryz.ntmps121
 go_wp2_with fail
 refine H.out.mono ?_
 rintro e w' ⟨rfl, d1, rfl⟩
 rw [lay_bw]
 go_wp2
 go_ret
 exact ⟨rfl, lay_ex _ _⟩
end Go.Proofs.YtcbicpbbjbkiaaaGreatDoor
namespace Go.Proofs.YtcbicpbbjbkiaaaGreatDoor
open Go.RowKit

structure Bk (w : World) (b : Nat) (vd vp vs : Value) : Prop where
 lt : b < w.heap.size
 c0 : w.cell? ⟨b, 0, none⟩ = some vd
 c1 : w.cell? ⟨b, 1, none⟩ = some vp
 c2 : w.cell? ⟨b, 2, none⟩ = some vs
theorem Bk.lay {w : World} {b : Nat} {vd vp vs : Value} (h : Bk w b vd vp vs) (L : List (Obj ⊕ Ext)) : Bk (lay w L) b vd vp vs :=
 ⟨Nat.lt_of_lt_of_le h.lt (lay_extends w L).size, (lay_old w L 0 b h.lt).trans h.c0, (lay_old w L 1 b h.lt).trans h.c1, (lay_old w L 2 b h.lt).trans h.c2⟩
end Go.Proofs.YtcbicpbbjbkiaaaGreatDoor
namespace Go.Proofs.YtcbicpbbjbkiaaaGreatDoor
open Go.RowKit Go.Shelf

def StOk1 (l : List StarV) (i : Nat) (x : StarV) : Prop := nameB x.s = true ∧ numB x.sha x.dec x.mag = true ∧ fndS l x.s = (i : Int)
structure Cat (l : List StarV) : Prop where
 len : l.length ≤ 100
 ok : ∀ i x, l[i]? = some x → StOk1 l i x
noncomputable def catB (l : List StarV) : Bool := @decide (Cat l) (Classical.propDecidable _)
theorem catB_iff {l : List StarV} : catB l = true ↔ Cat l := by unfold catB; simp
theorem catB_no {l : List StarV} (h : ¬ Cat l) : false = catB l := by cases e : catB l; rfl; exact absurd (catB_iff.1 e) h
theorem catB_yes {l : List StarV} (h : Cat l) : true = catB l := (catB_iff.2 h).symm
theorem cat_big {l : List StarV} (h : 100 < l.length) : ¬ Cat l := fun c => by have := c.len; omega
theorem cat_bad {l : List StarV} {i : Nat} {x : StarV} (hx : l[i]? = some x) (h : ¬ StOk1 l i x) : ¬ Cat l := fun c => h (c.ok i x hx)
theorem cat_all {l : List StarV} {n : Nat} (hn : l.length = n) (hl : n ≤ 100) (h : ∀ i x, i < n → l[i]? = some x → StOk1 l i x) : Cat l := ⟨by omega, fun i x hx => h i x (by have := (List.getElem?_eq_some_iff.1 hx).1; omega) hx⟩
set_option maxHeartbeats 4000000 in
set_option maxRecDepth 100000 in
theorem cat_Valid (v : Value) (l : List StarV) (w : World) (hv : SlG stR w v l) :
  Calls Tryz.prog 58 #[v] w fun e w' => e = .returned (.bool (catB l)) ∧ ∃ d, w' = bw w d := by
 have HV := Lib.hid hv
 by_cases hbig : 100 < l.length
 ·have HB := Lib.hid (catB_no (cat_big hbig))
  obtain ⟨a, c, rfl⟩ := hv.form
  have t1 : decide ((100 : Int) < (l.length : Int)) = true := decide_eq_true (by omega)
  clear hv hbig HV
  generalize l.length = m at *
  refine lay_start ?_
  go_enter Tryz.func58, Tryz.ntmps58
  go_wp2
  go_ret
  exact ⟨ret_bool HB.out, lay_ex _ _⟩
 ·have t1 : decide ((100 : Int) < (l.length : Int)) = false := decide_eq_false (by omega)
  by_cases hz : l = []
  ·subst hz
   have HB := Lib.hid (catB_yes (cat_all (l := []) (n := 0) rfl (by decide) (fun i _ hi => absurd hi (Nat.not_lt_zero i))))
   obtain ⟨a, c, rfl⟩ := hv.form
   refine lay_start ?_
   go_enter Tryz.func58, Tryz.ntmps58
   go_wp2_with fail
   refine wp_loop_rounds 1 ?_
   rw [rounds_succ]
   go_wp2
   go_ret
   exact ⟨ret_bool HB.out, lay_ex _ _⟩
  ·obtain ⟨b, o, c, rfl, hc, hb, hr⟩ := hv.open (List.length_pos_iff.2 hz)
   have HI := Lib.hid (fun W s (q : SlG stR W (.slice (some ⟨b, o, none⟩) l.length c) l) => cat_index _ l s W q)
   have HWf := Lib.hid hv.wf
   have HBad := Lib.hid (fun i x hx (h : ¬ StOk1 l i x) => catB_no (cat_bad hx h))
   have HAll := Lib.hid (fun (h : ∀ i x, i < l.length → l[i]? = some x → StOk1 l i x) => catB_yes (cat_all rfl (by omega) h))
   obtain ⟨m, hm⟩ : ∃ m, l.length = m := ⟨_, rfl⟩
   have HM := Lib.hid hm
   have HR : Hid (∀ i x, l[i]? = some x → w.cell? ⟨b, o + i * 4, none⟩ = some (.string x.s) ∧ w.cell? ⟨b, o + i * 4 + 1, none⟩ = some (.int .i64 x.sha) ∧ w.cell? ⟨b, o + i * 4 + 2, none⟩ = some (.int .i64 x.dec) ∧ w.cell? ⟨b, o + i * 4 + 3, none⟩ = some (.int .i64 x.mag)) :=
    Lib.hid (fun i x hx => ⟨hr i x hx 0 _ rfl, hr i x hx 1 _ rfl, hr i x hx 2 _ rfl, hr i x hx 3 _ rfl⟩)
   rw [hm] at hc HV HI HAll hbig t1 ⊢
   clear hz hm hr hv
   refine lay_start ?_
   go_enter Tryz.func58, Tryz.ntmps58
   go_wp2_with fail
   go_loopw [10] (fun i wr => ∃ (k : Nat) (d : Ext), k ≤ m ∧ i = .int .i64 k ∧ wr = lay w [.inr d] ∧ ∀ i x, i < k → l[i]? = some x → StOk1 l i x) (fun i _ => m - (intOf i).toNat)
   case atStart => exact ⟨0, noExt _, Nat.zero_le _, rfl, (bw_noExt _).symm, fun i x hi => by omega⟩
   case round =>
    obtain ⟨k, d, hk, rfl, rfl, hA⟩ := hrel
    have HA := Lib.hid hA
    clear hA
    by_cases hlt : k < m
    ·obtain ⟨x, hx⟩ : ∃ x, l[k]? = some x := ⟨_, List.getElem?_eq_getElem (by rw [HM.out]; exact hlt)⟩
     obtain ⟨e0, e1, e2, e3⟩ := HR.out k x hx
     have hsz := (HWf.out x (List.mem_of_getElem? hx)).1
     have HNo := Lib.hid (HBad.out k x hx)
     have HYes : Hid (StOk1 l k x → ∀ i y, i < k + 1 → l[i]? = some y → StOk1 l i y) := Lib.hid (fun h i y hi hy => by
      by_cases e : i = k
      ·subst e
       rw [hx] at hy
       cases hy; exact h
      ·exact HA.out i y (by omega) hy)
     have hst : StOk1 l k x ↔ nameB x.s = true ∧ numB x.sha x.dec x.mag = true ∧ fndS l x.s = (k : Int) := Iff.rfl
     have HSt := Lib.hid hst
     have x1 : (k : Int) < (m : Int) := by omega
     clear hx hst
     obtain ⟨xs, xa, xb, xc⟩ := x
     dsimp only at e0 e1 e2 e3 hsz HSt
     have HN1 := Lib.hid (fun W => dec_IsName xs W hsz)
     have HN2 := Lib.hid (fun W => cat_numbers xs xa xb xc W)
     have HN3 := Lib.hid (fun W q => HI.out W xs q)
     generalize nameB xs = P1 at *
     generalize numB xa xb xc = P2 at *
     generalize fndS l xs = J at *
     have hcase : (P1 = true ∧ P2 = true ∧ J = (k : Int)) ∨ (¬ StOk1 l k ⟨xs, xa, xb, xc⟩ ∧ (P1 = false ∨ (P1 = true ∧ P2 = false) ∨ (P1 = true ∧ P2 = true ∧ (J == (k : Int)) = false))) := by
      cases P1
      ·exact .inr ⟨(fun h => absurd (HSt.out.1 h).1 (by decide)), .inl rfl⟩
      ·cases P2
       ·exact .inr ⟨(fun h => absurd (HSt.out.1 h).2.1 (by decide)), .inr (.inl ⟨rfl, rfl⟩)⟩
       ·by_cases hj : J = (k : Int)
        ·exact .inl ⟨rfl, rfl, hj⟩
        ·exact .inr ⟨fun h => hj (HSt.out.1 h).2.2, .inr (.inr ⟨rfl, rfl, beq_eq_false_iff_ne.2 hj⟩)⟩
     rcases hcase with ⟨rfl, rfl, rfl⟩ | ⟨hno, hw⟩
     ·have HY2 := Lib.hid (HYes.out (HSt.out.2 ⟨rfl, rfl, rfl⟩))
      go_wp2_with (first | (go_at_call 119; refine (HN1.out _).mono ?_; rintro e w' ⟨rfl, rfl⟩) | (go_at_call 120; refine (HN2.out _).mono ?_; rintro e w' ⟨rfl, d, rfl⟩) | (go_at_call 121; refine (HN3.out _ (HV.out.lay _)).mono ?_; rintro e w' ⟨rfl, d, rfl⟩))
      go_roundw
      case rel => exact ⟨k + 1, _, by omega, by go_num, Classical.choose_spec (lay_all w _), HY2.out⟩
      case measure => simp [intOf]; omega
     ·have HB := Lib.hid (HNo.out hno)
      clear hno
      rcases hw with rfl | ⟨rfl, rfl⟩ | ⟨rfl, rfl, t9⟩
      all_goals
       go_wp2_with (first | (go_at_call 119; refine (HN1.out _).mono ?_; rintro e w' ⟨rfl, rfl⟩) | (go_at_call 120; refine (HN2.out _).mono ?_; rintro e w' ⟨rfl, d, rfl⟩) | (go_at_call 121; refine (HN3.out _ (HV.out.lay _)).mono ?_; rintro e w' ⟨rfl, d, rfl⟩))
       go_ret
       exact ⟨ret_bool HB.out, lay_ex _ _⟩
    ·have HB := Lib.hid (HAll.out (fun i x hi hx => HA.out i x (by omega) hx))
     have x1 : ¬ (k : Int) < (m : Int) := by omega
     go_wp2
     go_ret
     exact ⟨ret_bool HB.out, lay_ex _ _⟩
end Go.Proofs.YtcbicpbbjbkiaaaGreatDoor

/- Contracts and plain laws, several texts in one: Sta4; Nw0; Nw1; FxS; ChC -/
import Derived.Test.YtcbicpbbjbkiaaaGreatDoorProg
import Derived.WalkKit
import Derived.WalkSpells
import Derived.WalkLawsBesides
import Derived.Lib.Hide
import Derived.BigQuiet
import Derived.Test.YtcbicpbbjbkiaaaGreatDoorZmAA
import Derived.Test.YtcbicpbbjbkiaaaGreatDoorZmAB
import Derived.Test.YtcbicpbbjbkiaaaGreatDoorZmAG
import Derived.Test.YtcbicpbbjbkiaaaGreatDoorZmAH
import Derived.Test.YtcbicpbbjbkiaaaGreatDoorZmAN
namespace Go.Proofs.YtcbicpbbjbkiaaaGreatDoor
open Go.RowKit Go.Shelf

end Go.Proofs.YtcbicpbbjbkiaaaGreatDoor
namespace Go.Proofs.YtcbicpbbjbkiaaaGreatDoor
set_option maxHeartbeats 1000000
open Go.RowKit Go.Shelf

theorem pgs_IndexFunc_nil (a : Option Addr) (c : Nat) (f : Value) (w : World) :
  Calls Tryz.prog 117 #[.slice a 0 c, f] w fun e w' => e = .returned (.int .i64 (-1)) ∧ ∃ d, w' = bw w d := by
 refine lay_start ?_
 go_enter Tryz.func117, Tryz.ntmps117
 go_wp2_with fail
 refine wp_loop_rounds 1 ?_
 rw [rounds_succ]
 go_wp2
 go_ret
 exact ⟨rfl, lay_ex _ _⟩
theorem pgs_ContainsFunc_nil (a : Option Addr) (c : Nat) (f : Value) (w : World) :
  Calls Tryz.prog 55 #[.slice a 0 c, f] w fun e w' => e = .returned (.bool false) ∧ ∃ d, w' = bw w d := by
 refine lay_start ?_
 go_enter Tryz.func55, Tryz.ntmps55
 go_wp2_with (go_at_call 117; refine (pgs_IndexFunc_nil _ _ _ _).mono ?_; rintro e w' ⟨rfl, d, rfl⟩)
 go_ret
 exact ⟨rfl, lay_ex _ _⟩
theorem pgs_Clone_nil (w : World) :
  Calls Tryz.prog 122 #[.slice none 0 0] w fun e w' => e = .returned (.slice none 0 0) ∧ ∃ d, w' = bw w d := by
 refine lay_start ?_
 have qT : ∀ (w : World) (a : Option Addr) (n c : Nat), (binOp .eql 124 (.slice a n c) (.slice none 0 0)).run Tryz.prog w = .ok (.bool a.isNone) w := fun w a n c => Lib.run_eql_slice_nil w _ _ a n c 0 0 pgOk.und
 go_enter Tryz.func122, Tryz.ntmps122
 go_wp2_with fail
 go_ret
 exact ⟨rfl, lay_ex _ _⟩
theorem alm_copied_nil (w : World) :
  Calls Tryz.prog 59 #[.slice none 0 0] w fun e w' => e = .returned (.slice none 0 0) ∧ ∃ d, w' = bw w d := by
 refine lay_start ?_
 go_enter Tryz.func59, Tryz.ntmps59
 go_wp2_with (go_at_call 122; refine (pgs_Clone_nil _).mono ?_; rintro e w' ⟨rfl, d, rfl⟩)
 refine wp_loop_rounds 1 ?_
 rw [rounds_succ]
 go_wp2
 go_ret
 exact ⟨rfl, lay_ex _ _⟩
theorem alm_tracked_nil (bk : Nat) (vd vs : Value) (w : World) (hB : Bk w bk vd (.slice none 0 0) vs) :
  Calls Tryz.prog 62 #[.pointer (some ⟨bk, 0, none⟩)] w fun e w' => e = .returned (.slice none 0 0) ∧ ∃ d, w' = bw w d := by
 obtain ⟨k0, k1, k2, k3⟩ := hB
 refine lay_start ?_
 go_enter Tryz.func62, Tryz.ntmps62
 go_wp2_with fail
 refine wp_loop_rounds 1 ?_
 rw [rounds_succ]
 go_wp2_with (first | (go_at_call 127; refine (Tryz.slices_Sort_string_none _ _ _).mono ?_; rintro e w' ⟨rfl, rfl⟩) | (go_at_call 128; refine (Tryz.slices_Compact_string_empty _ _ _).mono ?_; rintro e w' ⟨rfl, rfl⟩))
 go_ret
 exact ⟨rfl, noExt _, (bw_noExt _).symm⟩
def isA (s : ByteArray) : Bool := s.toList == [65, 114, 105, 101, 115]
theorem alm_New2_nil (x : StarV) (b : Nat) (w : World) (hb : b < w.heap.size) (hc : w.cell? ⟨b, 0, none⟩ = some (.slice none 0 0)) :
  Calls Tryz.prog 65 #[.agg #[.string x.s, .int .i64 x.sha, .int .i64 x.dec, .int .i64 x.mag], .pointer (some ⟨b, 0, none⟩)] w fun e w' => e = .returned (.bool (isA x.s)) ∧ ∃ d, w' = bw w d := by
 obtain ⟨xs, x1, x2, x3⟩ := x
 dsimp only
 have ho : isA xs = (xs.toList == [65, 114, 105, 101, 115]) := rfl
 cases h : isA xs
 ·rw [h] at ho
  have t1 := ho.symm
  clear ho h
  refine lay_start ?_
  go_enter Tryz.func65, Tryz.ntmps65
  go_wp2_with (go_at_call 63; refine (Tryz.slices_Contains_string_empty _ _ _ _).mono ?_; rintro e w' ⟨rfl, rfl⟩)
  go_ret
  exact ⟨rfl, lay_ex _ _⟩
 ·rw [h] at ho
  have t1 := ho.symm
  clear ho h
  refine lay_start ?_
  go_enter Tryz.func65, Tryz.ntmps65
  go_wp2_with (go_at_call 63; refine (Tryz.slices_Contains_string_empty _ _ _ _).mono ?_; rintro e w' ⟨rfl, rfl⟩)
  go_ret
  exact ⟨rfl, lay_ex _ _⟩
theorem st_ContainsFunc (g : FuncId) (lb : List Value) (p : StarV → Bool) (v : Value) (l : List StarV) (w : World) (hv : SlG stR w v l)
  (eI : ∀ args w, (callFunc g args).run Tryz.prog w = .ok (.enter g args) w)
  (hf : ∀ x ∈ l, ∀ d, Calls Tryz.prog g (.agg (stR.enc x).toArray :: lb).toArray (bw w d) fun e w' => e = .returned (.bool (p x)) ∧ ∃ d, w' = bw w d) :
  Calls Tryz.prog 64 #[v, .func (.func g) #[] lb.toArray] w fun e w' => e = .returned (.bool (l.any p)) ∧ ∃ d, w' = bw w d := by
 have H := Lib.hid (st_IndexFunc g lb p v l w hv eI hf)
 have HS := Lib.hid (idxR_any p l 0)
 generalize idxR p l 0 = x at *
 generalize l.any p = y at *
 clear hf eI hv
 refine lay_start ?_
 go_enter Tryz.func64, Tryz.ntmps64
 go_wp2_with (go_at_call 130; refine H.out.mono ?_; rintro e w' ⟨rfl, d, rfl⟩)
 go_ret
 exact ⟨ret_bool HS.out, _, rfl⟩
end Go.Proofs.YtcbicpbbjbkiaaaGreatDoor
namespace Go.Proofs.YtcbicpbbjbkiaaaGreatDoor
open Go.RowKit Go.Shelf

def NewPost0 (w : World) (l : List StarV) (e : Ending) (w' : World) : Prop :=
 ∃ bk vs d, e = .returned (.tuple #[.pointer (some ⟨bk, 0, none⟩), .int .i64 0]) ∧ w' = bw w d ∧ Bk (bw w d) bk (.slice none 0 0) (.slice none 0 0) vs ∧ SlG stR (bw w d) vs l
theorem bk_new0 (w : World) (L : List (Obj ⊕ Ext)) (t : TypeId) (vd vp vs : Value) : Bk (lay w (.inl (.cells #[vd, vp, vs] t (0, 0)) :: L)) (posn w (shp L)) vd vp vs := by
 have h := lay_get w (.inl (.cells #[vd, vp, vs] t (0, 0)) :: L) 0 _ rfl
 refine ⟨(Array.getElem?_eq_some_iff.1 h).1, ?_, ?_, ?_⟩ <;> (unfold World.cell?; rw [show posn w (shp L) = posn w ((shp (.inl (.cells #[vd, vp, vs] t (0, 0)) :: L)).drop (0 + 1)) from rfl, h]; rfl)
theorem bk_new (w : World) (A L : List (Obj ⊕ Ext)) (t : TypeId) (vd vp vs : Value) : Bk (lay w (A ++ .inl (.cells #[vd, vp, vs] t (0, 0)) :: L)) (posn w (shp L)) vd vp vs := by
 rw [lay_appG]
 exact (bk_new0 w L t vd vp vs).lay A
set_option maxHeartbeats 1000000 in
set_option maxRecDepth 100000 in
theorem alm_New_nil3 (v : Value) (l : List StarV) (w : World) (hv : SlG stR w v l) (h : catB l = true) (hA : l.any (fun x => isA x.s) = false) :
  Calls Tryz.prog 14 #[.slice none 0 0, v] w (NewPost0 w l) := by
 have hlen := (catB_iff.1 h).len
 have HC := Lib.hid (fun L => cat_Valid v l (lay w L) (hv.lay L))
 rw [h] at HC
 have HCl := Lib.hid (fun L => cln_Star v l (lay w L) (hv.lay L) (by omega))
 have eI : ∀ args w, (callFunc 65 args).run Tryz.prog w = .ok (.enter 65 args) w := enters_of Tryz.func65 (by kernel_rfl) rfl
 have HI := Lib.hid (fun L b' (hb : b' < (lay w L).heap.size) (hc : ∀ d, (lay w (.inr d :: L)).cell? ⟨b', 0, none⟩ = some (.slice none 0 0)) => st_ContainsFunc 65 [.pointer (some ⟨b', 0, none⟩)] (fun x => isA x.s) v l (lay w L) (hv.lay L) eI (fun x _ d =>
  alm_New2_nil x b' (lay w (.inr d :: L)) (Nat.lt_of_lt_of_le hb (bw_le _ d)) (hc d) |>.mono fun e w' ⟨h1, d2, h2⟩ => ⟨h1, _, h2.trans (bw_bw _ _ _)⟩))
 rw [hA] at HI
 clear h hv hA hlen eI
 unfold NewPost0
 refine lay_start ?_
 go_enter Tryz.func14, Tryz.ntmps14
 go_wp2_with (first | (go_at_call 55; refine (pgs_ContainsFunc_nil _ _ _ _).mono ?_; rintro e w' ⟨rfl, d1, rfl⟩) | (go_at_call 58; refine (HC.out _).mono ?_; rintro e w' ⟨rfl, d2, rfl⟩) | (go_at_call 59; refine (alm_copied_nil _).mono ?_; rintro e w' ⟨rfl, d3, rfl⟩))
 refine (HCl.out _).mono ?_
 rintro e w' ⟨v', d4, rfl, rfl, h4⟩
 have H4 := Lib.hid (h4.sl stOk)
 obtain ⟨va, vc, rfl⟩ := h4.form
 clear h4
 rw [lay_bw] at H4 ⊢
 go_wp2_with fail
 refine wp_loop_rounds 1 ?_
 rw [rounds_succ]
 go_wp2_with fail
 refine (alm_tracked_nil _ _ _ _ (bk_new0 w [.inr d4, .inr d3, .inr d2, .inr d1] _ _ _ _)).mono ?_
 rintro e w' ⟨rfl, d5, rfl⟩
 rw [lay_bw]
 go_wp2_with (first | (go_at_call 63; refine (Tryz.slices_Contains_string_empty _ _ _ _).mono ?_; rintro e w' ⟨rfl, rfl⟩))
 refine (HI.out _ _ (by simp only [lay_size, shp, posn, List.sum_cons, List.sum_nil]; omega) (fun d => by simp [go_sem])).mono ?_
 rintro e w' ⟨rfl, d6, rfl⟩
 rw [lay_bw]
 go_wp2_with fail
 obtain ⟨z, hz⟩ := lay_ex w [.inr d6, .inl (.cells #[.slice none 0 0] 136 (0, 0)), .inr d5, .inl (.cells #[.slice none 0 0, .slice none 0 0, .slice va l.length vc] 134 (0, 0)), .inr d4, .inr d3, .inr d2, .inr d1]
 exact bodyPost_ret (v := .tuple #[.pointer (some ⟨posn w (shp [.inr d4, .inr d3, .inr d2, .inr d1]), 0, none⟩), .int .i64 0]) (by simp [results, Tryz.results14, go_sem]) rfl
  ⟨_, _, z, rfl, hz, hz ▸ bk_new w [_, _, _] _ _ _ _ _, hz ▸ slG_on (A := [_, _, _, _]) H4.out⟩
end Go.Proofs.YtcbicpbbjbkiaaaGreatDoor
namespace Go.Proofs.YtcbicpbbjbkiaaaGreatDoor
set_option maxRecDepth 100000
open Go.RowKit

theorem fx_SubG (a0 a1 b0 b1 : Int) (w : World) (ha : fxB a0 a1 = true) (hb : fxB b0 b1 = true) (hm : fxB (a0 - b1) (a1 - b0) = true) :
  Calls Tryz.prog 244 #[(.agg #[.int .i64 (a0), .int .i64 (a1)]), (.agg #[.int .i64 (b0), .int .i64 (b1)])] w fun e w' => e = .returned (.tuple #[(.agg #[.int .i64 (a0 - b1), .int .i64 (a1 - b0)]), .int .i64 0]) ∧ ∃ d, w' = bw w d := by
 have HB := Lib.hid (fun W => fx_bothG a0 a1 b0 b1 W)
 rw [ha, hb, Bool.and_self] at HB
 have HT := Lib.hid (fun W => fx_fitG _ _ W hm)
 have hf := fxB_iff.1 hm
 have hfa := fxB_iff.1 ha
 have hfb := fxB_iff.1 hb
 have k1 : IntKind.i64.wrap (a0 - b1) = a0 - b1 := IntWalk.i64_in _ (by omega)
 have k2 : IntKind.i64.wrap (a1 - b0) = a1 - b0 := IntWalk.i64_in _ (by omega)
 clear hf hfa hfb ha hb hm
 refine lay_start ?_
 go_enter Tryz.func244, Tryz.ntmps244
 go_wp2_with (first | (go_at_call 188; refine (HB.out _).mono ?_; rintro e w' ⟨rfl, d, rfl⟩) | (go_at_call 189; refine (HT.out _).mono ?_; rintro e w' ⟨rfl, d1, rfl⟩))
 exact bodyPost_ret (v := .tuple #[(.agg #[.int .i64 (a0 - b1), .int .i64 (a1 - b0)]), .int .i64 0]) (by simp [results, Tryz.results244, go_sem]) rfl ⟨rfl, lay_ex _ _⟩
theorem fx_AddG (a0 a1 b0 b1 : Int) (w : World) (ha : fxB a0 a1 = true) (hb : fxB b0 b1 = true) (hm : fxB (a0 + b0) (a1 + b1) = true) :
  Calls Tryz.prog 105 #[(.agg #[.int .i64 (a0), .int .i64 (a1)]), (.agg #[.int .i64 (b0), .int .i64 (b1)])] w fun e w' => e = .returned (.tuple #[(.agg #[.int .i64 (a0 + b0), .int .i64 (a1 + b1)]), .int .i64 0]) ∧ ∃ d, w' = bw w d := by
 have HB := Lib.hid (fun W => fx_bothG a0 a1 b0 b1 W)
 rw [ha, hb, Bool.and_self] at HB
 have HT := Lib.hid (fun W => fx_fitG _ _ W hm)
 have hf := fxB_iff.1 hm
 have hfa := fxB_iff.1 ha
 have hfb := fxB_iff.1 hb
 have k1 : IntKind.i64.wrap (a0 + b0) = a0 + b0 := IntWalk.i64_in _ (by omega)
 have k2 : IntKind.i64.wrap (a1 + b1) = a1 + b1 := IntWalk.i64_in _ (by omega)
 clear hf hfa hfb ha hb hm
 refine lay_start ?_
 go_enter Tryz.func105, Tryz.ntmps105
 go_wp2_with (first | (go_at_call 188; refine (HB.out _).mono ?_; rintro e w' ⟨rfl, d, rfl⟩) | (go_at_call 189; refine (HT.out _).mono ?_; rintro e w' ⟨rfl, d1, rfl⟩))
 exact bodyPost_ret (v := .tuple #[(.agg #[.int .i64 (a0 + b0), .int .i64 (a1 + b1)]), .int .i64 0]) (by simp [results, Tryz.results105, go_sem]) rfl ⟨rfl, lay_ex _ _⟩
set_option maxRecDepth 100000
open Go.RowKit

theorem cc_keep (b : Nat) (lo hi : Int) (w : World) (hc : ChW b w) :
  Calls Tryz.prog 240 #[.pointer (some ⟨b, 0, none⟩), (.agg #[.int .i64 (lo), .int .i64 (hi)]), .int .i64 0] w fun e w' => e = .returned (.agg #[.int .i64 (lo), .int .i64 (hi)]) ∧ ∃ d, w' = bw w d := by
 have hb := hc.lt
 have h1 := hc.cell
 have h2 := hc.froz
 have h3 : ∀ L, (lay w L).setCell ⟨b, 0, none⟩ (.int .i64 0) = lay w L := fun L => (hc.lay L).set
 refine lay_start ?_
 go_enter Tryz.func240, Tryz.ntmps240
 go_wp2_with fail
 exact bodyPost_ret (v := (.agg #[.int .i64 (lo), .int .i64 (hi)])) (by simp [results, Tryz.results240, go_sem]) rfl ⟨rfl, lay_ex _ _⟩
theorem cc_cos (b : Nat) (lo hi : Int) (w : World) (hc : ChW b w) (hv : validB lo hi = true) :
  Calls Tryz.prog 239 #[.pointer (some ⟨b, 0, none⟩), (.agg #[.int .i64 (lo), .int .i64 (hi)])] w fun e w' => e = .returned (.agg #[.int .i64 (encL (lo + 5400000) (hi + 5400000)), .int .i64 (encH (lo + 5400000) (hi + 5400000))]) ∧ ∃ d, w' = bw w d := by
 have HK := Lib.hid (fun L => cc_keep b (encL (lo + 5400000) (hi + 5400000)) (encH (lo + 5400000) (hi + 5400000)) (lay w L) (hc.lay L))
 have HT := Lib.hid (fun W => tg_Cos lo hi hv W)
 generalize encL (lo + 5400000) (hi + 5400000) = p at *
 generalize encH (lo + 5400000) (hi + 5400000) = q at *
 clear hc hv
 refine lay_start ?_
 go_enter Tryz.func239, Tryz.ntmps239
 go_wp2_with (first | (go_at_call 100; refine (HT.out _).mono ?_; rintro e w' ⟨rfl, d, rfl⟩; rw [lay_bw]) | (go_at_call 240; refine (HK.out _).mono ?_; rintro e w' ⟨rfl, d2, rfl⟩))
 exact bodyPost_ret (v := (.agg #[.int .i64 (p), .int .i64 (q)])) (by simp [results, Tryz.results239, go_sem]) rfl ⟨rfl, lay_ex _ _⟩
theorem cc_sin (b : Nat) (lo hi : Int) (w : World) (hc : ChW b w) (hv : validB lo hi = true) :
  Calls Tryz.prog 238 #[.pointer (some ⟨b, 0, none⟩), (.agg #[.int .i64 (lo), .int .i64 (hi)])] w fun e w' => e = .returned (.agg #[.int .i64 (encL lo hi), .int .i64 (encH lo hi)]) ∧ ∃ d, w' = bw w d := by
 have HK := Lib.hid (fun L => cc_keep b (encL lo hi) (encH lo hi) (lay w L) (hc.lay L))
 have HT := Lib.hid (fun W => tg_Sin lo hi hv W)
 generalize encL lo hi = p at *
 generalize encH lo hi = q at *
 clear hc hv
 refine lay_start ?_
 go_enter Tryz.func238, Tryz.ntmps238
 go_wp2_with (first | (go_at_call 102; refine (HT.out _).mono ?_; rintro e w' ⟨rfl, d, rfl⟩; rw [lay_bw]) | (go_at_call 240; refine (HK.out _).mono ?_; rintro e w' ⟨rfl, d2, rfl⟩))
 exact bodyPost_ret (v := (.agg #[.int .i64 (p), .int .i64 (q)])) (by simp [results, Tryz.results238, go_sem]) rfl ⟨rfl, lay_ex _ _⟩
theorem cc_mul (b : Nat) (a0 a1 b0 b1 : Int) (w : World) (hc : ChW b w) (ha : fxB a0 a1 = true) (hb : fxB b0 b1 = true) (hm : fxB (mulL a0 a1 b0 b1) (mulH a0 a1 b0 b1) = true) :
  Calls Tryz.prog 181 #[.pointer (some ⟨b, 0, none⟩), (.agg #[.int .i64 (a0), .int .i64 (a1)]), (.agg #[.int .i64 (b0), .int .i64 (b1)])] w fun e w' => e = .returned (.agg #[.int .i64 (mulL a0 a1 b0 b1), .int .i64 (mulH a0 a1 b0 b1)]) ∧ ∃ d, w' = bw w d := by
 have HK := Lib.hid (fun L => cc_keep b (mulL a0 a1 b0 b1) (mulH a0 a1 b0 b1) (lay w L) (hc.lay L))
 have HT := Lib.hid (fun W => fx_MulG a0 a1 b0 b1 W ha hb hm)
 generalize mulL a0 a1 b0 b1 = p at *
 generalize mulH a0 a1 b0 b1 = q at *
 clear hc ha hb hm
 refine lay_start ?_
 go_enter Tryz.func181, Tryz.ntmps181
 go_wp2_with (first | (go_at_call 101; refine (HT.out _).mono ?_; rintro e w' ⟨rfl, d, rfl⟩; rw [lay_bw]) | (go_at_call 240; refine (HK.out _).mono ?_; rintro e w' ⟨rfl, d2, rfl⟩))
 exact bodyPost_ret (v := (.agg #[.int .i64 (p), .int .i64 (q)])) (by simp [results, Tryz.results181, go_sem]) rfl ⟨rfl, lay_ex _ _⟩
theorem cc_add (b : Nat) (a0 a1 b0 b1 : Int) (w : World) (hc : ChW b w) (ha : fxB a0 a1 = true) (hb : fxB b0 b1 = true) (hm : fxB (a0 + b0) (a1 + b1) = true) :
  Calls Tryz.prog 180 #[.pointer (some ⟨b, 0, none⟩), (.agg #[.int .i64 (a0), .int .i64 (a1)]), (.agg #[.int .i64 (b0), .int .i64 (b1)])] w fun e w' => e = .returned (.agg #[.int .i64 (a0 + b0), .int .i64 (a1 + b1)]) ∧ ∃ d, w' = bw w d := by
 have HK := Lib.hid (fun L => cc_keep b (a0 + b0) (a1 + b1) (lay w L) (hc.lay L))
 have HT := Lib.hid (fun W => fx_AddG a0 a1 b0 b1 W ha hb hm)
 generalize a0 + b0 = p at *
 generalize a1 + b1 = q at *
 clear hc ha hb hm
 refine lay_start ?_
 go_enter Tryz.func180, Tryz.ntmps180
 go_wp2_with (first | (go_at_call 105; refine (HT.out _).mono ?_; rintro e w' ⟨rfl, d, rfl⟩; rw [lay_bw]) | (go_at_call 240; refine (HK.out _).mono ?_; rintro e w' ⟨rfl, d2, rfl⟩))
 exact bodyPost_ret (v := (.agg #[.int .i64 (p), .int .i64 (q)])) (by simp [results, Tryz.results180, go_sem]) rfl ⟨rfl, lay_ex _ _⟩
set_option maxHeartbeats 1000000 in
theorem cc_of (b : Nat) (a0 a1 b0 b1 c0 c1 : Int) (w : World) (hc : ChW b w) (va : validB a0 a1 = true) (vb : validB b0 b1 = true) (vc : validB c0 c1 = true) :
  Calls Tryz.prog 179 #[.pointer (some ⟨b, 0, none⟩), (.agg #[.int .i64 (a0), .int .i64 (a1), .int .i64 (b0), .int .i64 (b1), .int .i64 (c0), .int .i64 (c1)])] w fun e w' => e = .returned (.agg #[.int .i64 (encL a0 a1), .int .i64 (encH a0 a1), .int .i64 (cosL a0 a1), .int .i64 (cosH a0 a1), .int .i64 (encL b0 b1), .int .i64 (encH b0 b1), .int .i64 (cosL b0 b1), .int .i64 (cosH b0 b1), .int .i64 (encL c0 c1), .int .i64 (encH c0 c1), .int .i64 (cosL c0 c1), .int .i64 (cosH c0 c1)]) ∧ ∃ d, w' = bw w d := by
 have HS1 := Lib.hid (fun L => cc_sin b a0 a1 (lay w L) (hc.lay L) va)
 have HS2 := Lib.hid (fun L => cc_sin b b0 b1 (lay w L) (hc.lay L) vb)
 have HS3 := Lib.hid (fun L => cc_sin b c0 c1 (lay w L) (hc.lay L) vc)
 have HC1 : Hid (∀ L, Calls _ _ #[_, (.agg #[.int .i64 (a0), .int .i64 (a1)])] _ fun e w' => e = .returned (.agg #[.int .i64 (cosL a0 a1), .int .i64 (cosH a0 a1)]) ∧ _) := Lib.hid (fun L => cc_cos b a0 a1 (lay w L) (hc.lay L) va)
 have HC2 : Hid (∀ L, Calls _ _ #[_, (.agg #[.int .i64 (b0), .int .i64 (b1)])] _ fun e w' => e = .returned (.agg #[.int .i64 (cosL b0 b1), .int .i64 (cosH b0 b1)]) ∧ _) := Lib.hid (fun L => cc_cos b b0 b1 (lay w L) (hc.lay L) vb)
 have HC3 : Hid (∀ L, Calls _ _ #[_, (.agg #[.int .i64 (c0), .int .i64 (c1)])] _ fun e w' => e = .returned (.agg #[.int .i64 (cosL c0 c1), .int .i64 (cosH c0 c1)]) ∧ _) := Lib.hid (fun L => cc_cos b c0 c1 (lay w L) (hc.lay L) vc)
 generalize encL a0 a1 = p1 at *
 generalize encH a0 a1 = q1 at *
 generalize encL b0 b1 = p2 at *
 generalize encH b0 b1 = q2 at *
 generalize encL c0 c1 = p3 at *
 generalize encH c0 c1 = q3 at *
 generalize cosL a0 a1 = r1 at *
 generalize cosH a0 a1 = s1 at *
 generalize cosL b0 b1 = r2 at *
 generalize cosH b0 b1 = s2 at *
 generalize cosL c0 c1 = r3 at *
 generalize cosH c0 c1 = s3 at *
 clear hc va vb vc
 refine lay_start ?_
 go_enter Tryz.func179, Tryz.ntmps179
 go_wp2_with fail
 refine region_bw_tail 25 (by kernel_rfl) (by kernel_rfl) ?_
 simp only [List.take_succ_cons, List.take_zero, List.drop_succ_cons, List.drop_zero]
 repeat (go_big_quiet_step ((first | (go_at_call 238; first | ((with_reducible refine bq (HS1.out _) ?_); first | exact (fun d => lay_join _ _ _ d) | exact (fun d => ⟨d, rfl⟩)) | ((with_reducible refine bq (HS2.out _) ?_); first | exact (fun d => lay_join _ _ _ d) | exact (fun d => ⟨d, rfl⟩)) | ((with_reducible refine bq (HS3.out _) ?_); first | exact (fun d => lay_join _ _ _ d) | exact (fun d => ⟨d, rfl⟩))) | (go_at_call 239; first | ((with_reducible refine bq (HC1.out _) ?_); first | exact (fun d => lay_join _ _ _ d) | exact (fun d => ⟨d, rfl⟩)) | ((with_reducible refine bq (HC2.out _) ?_); first | exact (fun d => lay_join _ _ _ d) | exact (fun d => ⟨d, rfl⟩)) | ((with_reducible refine bq (HC3.out _) ?_); first | exact (fun d => lay_join _ _ _ d) | exact (fun d => ⟨d, rfl⟩))))))
 refine wpQuiet_nil ?_
 rintro w' ⟨d, rfl⟩
 rw [lay_bw]
 go_wp2_with fail
 exact bodyPost_ret (v := (.agg #[.int .i64 (p1), .int .i64 (q1), .int .i64 (r1), .int .i64 (s1), .int .i64 (p2), .int .i64 (q2), .int .i64 (r2), .int .i64 (s2), .int .i64 (p3), .int .i64 (q3), .int .i64 (r3), .int .i64 (s3)])) (by simp [results, Tryz.results179, go_sem]) rfl ⟨rfl, lay_ex _ _⟩
end Go.Proofs.YtcbicpbbjbkiaaaGreatDoor

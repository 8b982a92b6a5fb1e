/- Contracts and plain laws, several texts in one: Chn; FxS; ChC; CoW; Hz4; Hz5 -/
import Derived.Test.YtnnmfdeeicpdlaaGreatProg
import Derived.WalkKit
import Derived.WalkSpells
import Derived.WalkLawsBesides
import Derived.Lib.Hide
import Derived.BigQuiet
import Derived.Test.YtnnmfdeeicpdlaaGreatSAA
import Derived.Test.YtnnmfdeeicpdlaaGreatSAF
import Derived.Test.YtnnmfdeeicpdlaaGreatSAG
import Derived.Test.YtnnmfdeeicpdlaaGreatSAH
import Derived.Test.YtnnmfdeeicpdlaaGreatSAN
import Derived.Test.YtnnmfdeeicpdlaaGreatSAW
import Derived.Test.YtnnmfdeeicpdlaaGreatSAX
import Derived.Test.YtnnmfdeeicpdlaaGreatSAZ
/- A cell that keeps its value: storing what is there changes nothing. No program in sight. -/
namespace Go.Proofs.YtnnmfdeeicpdlaaGreat
open Go.RowKit

theorem set_same {W : World} {b i : Nat} {v : Value} (h : W.cell? ⟨b, i, none⟩ = some v) : W.setCell ⟨b, i, none⟩ v = W := by
  have hh : W.heap.modify b (fun o => match o with | .cells c elem frozen => .cells (if (none : Option Nat).isSome then c else c.setIfInBounds i v) elem frozen | o => o) = W.heap := by
    refine Array.ext (by simp) fun j h1 h2 => ?_
    rw [Array.getElem_modify]
    split
    · rename_i e
      subst e
      unfold World.cell? at h
      rw [Array.getElem?_eq_getElem h2] at h
      dsimp only at h
      split at h
      · rename_i c e f he
        rw [Option.some.injEq] at he
        rw [he]
        simp only [Option.isSome_none, Bool.false_eq_true, if_false] at h ⊢
        obtain ⟨hi, hv⟩ := Array.getElem?_eq_some_iff.1 h
        rw [Array.setIfInBounds_def, dif_pos hi, ← hv, Array.set_getElem_self]
      · cases h
    · rfl
  obtain ⟨heap, tape, drawn, os, output⟩ := W
  unfold World.setCell
  dsimp only at hh ⊢
  exact congrArg (fun x => ({ heap := x, tape := tape, drawn := drawn, os := os, output := output } : World)) hh
structure ChW (b : Nat) (W : World) : Prop where
  lt : b < W.heap.size
  cell : W.cell? ⟨b, 0, none⟩ = some (.int .i64 0)
  froz : W.frozen? ⟨b, 0, none⟩ = false
theorem ChW.ext {b : Nat} {W W' : World} (h : ChW b W) (hb : Below W.heap.size W W') : ChW b W' :=
  ⟨Nat.lt_of_lt_of_le h.lt hb.size, (hb.cell (p := ⟨b, 0, none⟩) h.lt).trans h.cell, (hb.frozen (p := ⟨b, 0, none⟩) h.lt).trans h.froz⟩
theorem ChW.bw {b : Nat} {W : World} (h : ChW b W) (d : Ext) : ChW b (bw W d) := h.ext (bw_below W d)
theorem ChW.lay {b : Nat} {W : World} (h : ChW b W) (L : List (Obj ⊕ Ext)) : ChW b (lay W L) := h.ext (lay_extends W L)
theorem ChW.set {b : Nat} {W : World} (h : ChW b W) : W.setCell ⟨b, 0, none⟩ (.int .i64 0) = W := set_same h.cell
theorem ChW.on {b : Nat} {w : World} {L : List (Obj ⊕ Ext)} (h : ChW b (Go.Proofs.YtnnmfdeeicpdlaaGreat.lay w L)) (L' : List (Obj ⊕ Ext)) : ChW b (Go.Proofs.YtnnmfdeeicpdlaaGreat.lay w (L' ++ L)) := by
  rw [lay_append]
  exact h.lay L'
theorem chW_new (w : World) (L : List (Obj ⊕ Ext)) (t : TypeId) (p : List Nat) (hp : shp L = p) : ChW (posn w p) (lay w (.inl (Obj.cells #[.int .i64 0] t) :: L)) := by
  subst hp
  have hg : (lay w (.inl (Obj.cells #[.int .i64 0] t) :: L)).heap[posn w (shp L)]? = some (Obj.cells #[.int .i64 0] t) := lay_get w (.inl (Obj.cells #[.int .i64 0] t) :: L) 0 _ rfl
  refine ⟨(Array.getElem?_eq_some_iff.1 hg).1, ?_, ?_⟩
  · unfold World.cell?; dsimp only; rw [hg]; rfl
  · unfold World.frozen?; dsimp only; rw [hg]; rfl
end Go.Proofs.YtnnmfdeeicpdlaaGreat
/- fixed: Sub, Add, fit at any ends. -/
namespace Go.Proofs.YtnnmfdeeicpdlaaGreat
open Go.RowKit

set_option maxRecDepth 100000 in
theorem fx_AddG (a0 a1 b0 b1 : Int) (w : World) (ha : fxB a0 a1 = true) (hb : fxB b0 b1 = true) (hm : fxB (a0 + b0) (a1 + b1) = true) :
    Calls Tryz.prog 277 #[(.agg #[.int .i64 (a0), .int .i64 (a1)]), (.agg #[.int .i64 (b0), .int .i64 (b1)])] w fun e w' => e = .returned (.tuple #[(.agg #[.int .i64 (a0 + b0), .int .i64 (a1 + b1)]), .int .i64 0]) ∧ ∃ d, w' = bw w d := by
  have HB := Lib.hid (fun W => fx_bothG a0 a1 b0 b1 W)
  rw [ha, hb, Bool.and_self] at HB
  have HT := Lib.hid (fun W => fx_fitG _ _ W hm)
  have hf := fxB_iff.1 hm
  have hfa := fxB_iff.1 ha
  have hfb := fxB_iff.1 hb
  have k1 : IntKind.i64.wrap (a0 + b0) = a0 + b0 := IntWalk.i64_in _ (by omega)
  have k2 : IntKind.i64.wrap (a1 + b1) = a1 + b1 := IntWalk.i64_in _ (by omega)
  clear hf hfa hfb ha hb hm
  refine lay_start ?_
  go_enter Tryz.func277, Tryz.ntmps277
  go_wp2_with (first | (go_at_call 94; refine (HB.out _).mono ?_; rintro e w' ⟨rfl, d, rfl⟩) | (go_at_call 95; refine (HT.out _).mono ?_; rintro e w' ⟨rfl, d1, rfl⟩))
  exact bodyPost_ret (v := .tuple #[(.agg #[.int .i64 (a0 + b0), .int .i64 (a1 + b1)]), .int .i64 0]) (by simp [results, Tryz.results277, go_sem]) rfl ⟨rfl, lay_ex _ _⟩
end Go.Proofs.YtnnmfdeeicpdlaaGreat
/- cosine's chain of operations: each gives its enclosure, and no error is kept. -/
namespace Go.Proofs.YtnnmfdeeicpdlaaGreat
set_option maxRecDepth 100000
open Go.RowKit

theorem cc_keep (b : Nat) (lo hi : Int) (w : World) (hc : ChW b w) :
    Calls Tryz.prog 276 #[.pointer (some ⟨b, 0, none⟩), (.agg #[.int .i64 (lo), .int .i64 (hi)]), .int .i64 0] w fun e w' => e = .returned (.agg #[.int .i64 (lo), .int .i64 (hi)]) ∧ ∃ d, w' = bw w d := by
  have hb := hc.lt
  have h1 := hc.cell
  have h2 := hc.froz
  have h3 : ∀ L, (lay w L).setCell ⟨b, 0, none⟩ (.int .i64 0) = lay w L := fun L => (hc.lay L).set
  refine lay_start ?_
  go_enter Tryz.func276, Tryz.ntmps276
  go_wp2_with fail
  exact bodyPost_ret (v := (.agg #[.int .i64 (lo), .int .i64 (hi)])) (by simp [results, Tryz.results276, go_sem]) rfl ⟨rfl, lay_ex _ _⟩
theorem cc_cos (b : Nat) (lo hi : Int) (w : World) (hc : ChW b w) (hv : validB lo hi = true) :
    Calls Tryz.prog 275 #[.pointer (some ⟨b, 0, none⟩), (.agg #[.int .i64 (lo), .int .i64 (hi)])] w fun e w' => e = .returned (.agg #[.int .i64 (encL (lo + 5400000) (hi + 5400000)), .int .i64 (encH (lo + 5400000) (hi + 5400000))]) ∧ ∃ d, w' = bw w d := by
  have HK := Lib.hid (fun L => cc_keep b (encL (lo + 5400000) (hi + 5400000)) (encH (lo + 5400000) (hi + 5400000)) (lay w L) (hc.lay L))
  have HT := Lib.hid (fun W => tg_Cos lo hi hv W)
  generalize encL (lo + 5400000) (hi + 5400000) = p at *
  generalize encH (lo + 5400000) (hi + 5400000) = q at *
  clear hc hv
  refine lay_start ?_
  go_enter Tryz.func275, Tryz.ntmps275
  go_wp2_with (first | (go_at_call 27; refine (HT.out _).mono ?_; rintro e w' ⟨rfl, d, rfl⟩; rw [lay_bw]) | (go_at_call 276; refine (HK.out _).mono ?_; rintro e w' ⟨rfl, d2, rfl⟩))
  exact bodyPost_ret (v := (.agg #[.int .i64 (p), .int .i64 (q)])) (by simp [results, Tryz.results275, go_sem]) rfl ⟨rfl, lay_ex _ _⟩
theorem cc_sin (b : Nat) (lo hi : Int) (w : World) (hc : ChW b w) (hv : validB lo hi = true) :
    Calls Tryz.prog 274 #[.pointer (some ⟨b, 0, none⟩), (.agg #[.int .i64 (lo), .int .i64 (hi)])] w fun e w' => e = .returned (.agg #[.int .i64 (encL lo hi), .int .i64 (encH lo hi)]) ∧ ∃ d, w' = bw w d := by
  have HK := Lib.hid (fun L => cc_keep b (encL lo hi) (encH lo hi) (lay w L) (hc.lay L))
  have HT := Lib.hid (fun W => tg_Sin lo hi hv W)
  generalize encL lo hi = p at *
  generalize encH lo hi = q at *
  clear hc hv
  refine lay_start ?_
  go_enter Tryz.func274, Tryz.ntmps274
  go_wp2_with (first | (go_at_call 26; refine (HT.out _).mono ?_; rintro e w' ⟨rfl, d, rfl⟩; rw [lay_bw]) | (go_at_call 276; refine (HK.out _).mono ?_; rintro e w' ⟨rfl, d2, rfl⟩))
  exact bodyPost_ret (v := (.agg #[.int .i64 (p), .int .i64 (q)])) (by simp [results, Tryz.results274, go_sem]) rfl ⟨rfl, lay_ex _ _⟩
theorem cc_mul (b : Nat) (a0 a1 b0 b1 : Int) (w : World) (hc : ChW b w) (ha : fxB a0 a1 = true) (hb : fxB b0 b1 = true) (hm : fxB (mulL a0 a1 b0 b1) (mulH a0 a1 b0 b1) = true) :
    Calls Tryz.prog 231 #[.pointer (some ⟨b, 0, none⟩), (.agg #[.int .i64 (a0), .int .i64 (a1)]), (.agg #[.int .i64 (b0), .int .i64 (b1)])] w fun e w' => e = .returned (.agg #[.int .i64 (mulL a0 a1 b0 b1), .int .i64 (mulH a0 a1 b0 b1)]) ∧ ∃ d, w' = bw w d := by
  have HK := Lib.hid (fun L => cc_keep b (mulL a0 a1 b0 b1) (mulH a0 a1 b0 b1) (lay w L) (hc.lay L))
  have HT := Lib.hid (fun W => fx_MulG a0 a1 b0 b1 W ha hb hm)
  generalize mulL a0 a1 b0 b1 = p at *
  generalize mulH a0 a1 b0 b1 = q at *
  clear hc ha hb hm
  refine lay_start ?_
  go_enter Tryz.func231, Tryz.ntmps231
  go_wp2_with (first | (go_at_call 24; refine (HT.out _).mono ?_; rintro e w' ⟨rfl, d, rfl⟩; rw [lay_bw]) | (go_at_call 276; refine (HK.out _).mono ?_; rintro e w' ⟨rfl, d2, rfl⟩))
  exact bodyPost_ret (v := (.agg #[.int .i64 (p), .int .i64 (q)])) (by simp [results, Tryz.results231, go_sem]) rfl ⟨rfl, lay_ex _ _⟩
theorem cc_add (b : Nat) (a0 a1 b0 b1 : Int) (w : World) (hc : ChW b w) (ha : fxB a0 a1 = true) (hb : fxB b0 b1 = true) (hm : fxB (a0 + b0) (a1 + b1) = true) :
    Calls Tryz.prog 230 #[.pointer (some ⟨b, 0, none⟩), (.agg #[.int .i64 (a0), .int .i64 (a1)]), (.agg #[.int .i64 (b0), .int .i64 (b1)])] w fun e w' => e = .returned (.agg #[.int .i64 (a0 + b0), .int .i64 (a1 + b1)]) ∧ ∃ d, w' = bw w d := by
  have HK := Lib.hid (fun L => cc_keep b (a0 + b0) (a1 + b1) (lay w L) (hc.lay L))
  have HT := Lib.hid (fun W => fx_AddG a0 a1 b0 b1 W ha hb hm)
  generalize a0 + b0 = p at *
  generalize a1 + b1 = q at *
  clear hc ha hb hm
  refine lay_start ?_
  go_enter Tryz.func230, Tryz.ntmps230
  go_wp2_with (first | (go_at_call 277; refine (HT.out _).mono ?_; rintro e w' ⟨rfl, d, rfl⟩; rw [lay_bw]) | (go_at_call 276; refine (HK.out _).mono ?_; rintro e w' ⟨rfl, d2, rfl⟩))
  exact bodyPost_ret (v := (.agg #[.int .i64 (p), .int .i64 (q)])) (by simp [results, Tryz.results230, go_sem]) rfl ⟨rfl, lay_ex _ _⟩
set_option maxHeartbeats 1000000 in
theorem cc_of (b : Nat) (a0 a1 b0 b1 c0 c1 : Int) (w : World) (hc : ChW b w) (va : validB a0 a1 = true) (vb : validB b0 b1 = true) (vc : validB c0 c1 = true) :
    Calls Tryz.prog 229 #[.pointer (some ⟨b, 0, none⟩), (.agg #[.int .i64 (a0), .int .i64 (a1), .int .i64 (b0), .int .i64 (b1), .int .i64 (c0), .int .i64 (c1)])] w fun e w' => e = .returned (.agg #[.int .i64 (encL a0 a1), .int .i64 (encH a0 a1), .int .i64 (cosL a0 a1), .int .i64 (cosH a0 a1), .int .i64 (encL b0 b1), .int .i64 (encH b0 b1), .int .i64 (cosL b0 b1), .int .i64 (cosH b0 b1), .int .i64 (encL c0 c1), .int .i64 (encH c0 c1), .int .i64 (cosL c0 c1), .int .i64 (cosH c0 c1)]) ∧ ∃ d, w' = bw w d := by
  have HS1 := Lib.hid (fun L => cc_sin b a0 a1 (lay w L) (hc.lay L) va)
  have HS2 := Lib.hid (fun L => cc_sin b b0 b1 (lay w L) (hc.lay L) vb)
  have HS3 := Lib.hid (fun L => cc_sin b c0 c1 (lay w L) (hc.lay L) vc)
  have HC1 : Hid (∀ L, Calls _ _ #[_, (.agg #[.int .i64 (a0), .int .i64 (a1)])] _ fun e w' => e = .returned (.agg #[.int .i64 (cosL a0 a1), .int .i64 (cosH a0 a1)]) ∧ _) := Lib.hid (fun L => cc_cos b a0 a1 (lay w L) (hc.lay L) va)
  have HC2 : Hid (∀ L, Calls _ _ #[_, (.agg #[.int .i64 (b0), .int .i64 (b1)])] _ fun e w' => e = .returned (.agg #[.int .i64 (cosL b0 b1), .int .i64 (cosH b0 b1)]) ∧ _) := Lib.hid (fun L => cc_cos b b0 b1 (lay w L) (hc.lay L) vb)
  have HC3 : Hid (∀ L, Calls _ _ #[_, (.agg #[.int .i64 (c0), .int .i64 (c1)])] _ fun e w' => e = .returned (.agg #[.int .i64 (cosL c0 c1), .int .i64 (cosH c0 c1)]) ∧ _) := Lib.hid (fun L => cc_cos b c0 c1 (lay w L) (hc.lay L) vc)
  generalize encL a0 a1 = p1 at *
  generalize encH a0 a1 = q1 at *
  generalize encL b0 b1 = p2 at *
  generalize encH b0 b1 = q2 at *
  generalize encL c0 c1 = p3 at *
  generalize encH c0 c1 = q3 at *
  generalize cosL a0 a1 = r1 at *
  generalize cosH a0 a1 = s1 at *
  generalize cosL b0 b1 = r2 at *
  generalize cosH b0 b1 = s2 at *
  generalize cosL c0 c1 = r3 at *
  generalize cosH c0 c1 = s3 at *
  clear hc va vb vc
  refine lay_start ?_
  go_enter Tryz.func229, Tryz.ntmps229
  go_wp2_with fail
  refine region_bw_tail 25 (by kernel_rfl) (by kernel_rfl) ?_
  simp only [List.take_succ_cons, List.take_zero, List.drop_succ_cons, List.drop_zero]
  repeat (go_big_quiet_step ((first | (go_at_call 274; first | ((with_reducible refine bq (HS1.out _) ?_); first | exact (fun d => lay_join _ _ _ d) | exact (fun d => ⟨d, rfl⟩)) | ((with_reducible refine bq (HS2.out _) ?_); first | exact (fun d => lay_join _ _ _ d) | exact (fun d => ⟨d, rfl⟩)) | ((with_reducible refine bq (HS3.out _) ?_); first | exact (fun d => lay_join _ _ _ d) | exact (fun d => ⟨d, rfl⟩))) | (go_at_call 275; first | ((with_reducible refine bq (HC1.out _) ?_); first | exact (fun d => lay_join _ _ _ d) | exact (fun d => ⟨d, rfl⟩)) | ((with_reducible refine bq (HC2.out _) ?_); first | exact (fun d => lay_join _ _ _ d) | exact (fun d => ⟨d, rfl⟩)) | ((with_reducible refine bq (HC3.out _) ?_); first | exact (fun d => lay_join _ _ _ d) | exact (fun d => ⟨d, rfl⟩))))))
  refine wpQuiet_nil ?_
  rintro w' ⟨d, rfl⟩
  rw [lay_bw]
  go_wp2_with fail
  exact bodyPost_ret (v := (.agg #[.int .i64 (p1), .int .i64 (q1), .int .i64 (r1), .int .i64 (s1), .int .i64 (p2), .int .i64 (q2), .int .i64 (r2), .int .i64 (s2), .int .i64 (p3), .int .i64 (q3), .int .i64 (r3), .int .i64 (s3)])) (by simp [results, Tryz.results229, go_sem]) rfl ⟨rfl, lay_ex _ _⟩
end Go.Proofs.YtnnmfdeeicpdlaaGreat
/- cosine.Valid, altitude, Altitude. -/
namespace Go.Proofs.YtnnmfdeeicpdlaaGreat
set_option maxRecDepth 100000
open Go.RowKit

theorem cos_latitude (x0 y0 : Int) (w : World) :
    Calls Tryz.prog 172 #[(.agg #[.int .i64 (x0), .int .i64 (y0)])] w fun e w' => e = .returned (.bool (latB x0 y0)) ∧ ∃ d, w' = bw w d := by
  refine lay_start ?_
  go_enter Tryz.func172, Tryz.ntmps172
  go_wp2_with (go_at_call 39; refine (angle_Valid _ _ _).mono ?_; rintro e w' ⟨rfl, d, rfl⟩)
  all_goals go_ret
  all_goals exact ⟨ret_bool (by first | exact lat_w1 ‹_› ‹_› | exact lat_w2 ‹_› | exact lat_w3 ‹_›), lay_ex _ _⟩
def triB (a0 a1 b0 b1 c0 c1 : Int) : Bool := latB a0 a1 && latB b0 b1 && validB c0 c1
theorem cos_Valid (a0 a1 b0 b1 c0 c1 : Int) (w : World) :
    Calls Tryz.prog 82 #[(.agg #[.int .i64 (a0), .int .i64 (a1), .int .i64 (b0), .int .i64 (b1), .int .i64 (c0), .int .i64 (c1)])] w fun e w' => e = .returned (.bool (triB a0 a1 b0 b1 c0 c1)) ∧ ∃ d, w' = bw w d := by
  have HA := Lib.hid (fun W => cos_latitude a0 a1 W)
  have HB := Lib.hid (fun W => cos_latitude b0 b1 W)
  have HC := Lib.hid (fun W => angle_Valid c0 c1 W)
  unfold triB
  generalize latB a0 a1 = p at *
  generalize latB b0 b1 = q at *
  generalize validB c0 c1 = r at *
  refine lay_start ?_
  cases p
  · simp only [Bool.false_and]
    go_enter Tryz.func82, Tryz.ntmps82
    go_wp2_with (first | (go_at_call 172; first | (with_reducible refine (HA.out _).mono ?_; rintro e w' ⟨rfl, d1, rfl⟩; rw [lay_bw]) | (with_reducible refine (HB.out _).mono ?_; rintro e w' ⟨rfl, d2, rfl⟩; rw [lay_bw])) | (go_at_call 39; refine (HC.out _).mono ?_; rintro e w' ⟨rfl, d3, rfl⟩; rw [lay_bw]))
    go_ret
    exact ⟨rfl, lay_ex _ _⟩
  · cases q
    · simp only [Bool.false_and, Bool.and_false]
      go_enter Tryz.func82, Tryz.ntmps82
      go_wp2_with (first | (go_at_call 172; first | (with_reducible refine (HA.out _).mono ?_; rintro e w' ⟨rfl, d1, rfl⟩; rw [lay_bw]) | (with_reducible refine (HB.out _).mono ?_; rintro e w' ⟨rfl, d2, rfl⟩; rw [lay_bw])) | (go_at_call 39; refine (HC.out _).mono ?_; rintro e w' ⟨rfl, d3, rfl⟩; rw [lay_bw]))
      go_ret
      exact ⟨rfl, lay_ex _ _⟩
    · simp only [Bool.true_and]
      go_enter Tryz.func82, Tryz.ntmps82
      go_wp2_with (first | (go_at_call 172; first | (with_reducible refine (HA.out _).mono ?_; rintro e w' ⟨rfl, d1, rfl⟩; rw [lay_bw]) | (with_reducible refine (HB.out _).mono ?_; rintro e w' ⟨rfl, d2, rfl⟩; rw [lay_bw])) | (go_at_call 39; refine (HC.out _).mono ?_; rintro e w' ⟨rfl, d3, rfl⟩; rw [lay_bw]))
      go_ret
      exact ⟨rfl, lay_ex _ _⟩
set_option maxHeartbeats 1000000 in
theorem cos_altitude (a0 a1 b0 b1 c0 c1 : Int) (w : World) (va : validB a0 a1 = true) (vb : validB b0 b1 = true) (vc : validB c0 c1 = true) :
    Calls Tryz.prog 178 #[(.agg #[.int .i64 (a0), .int .i64 (a1), .int .i64 (b0), .int .i64 (b1), .int .i64 (c0), .int .i64 (c1)])] w fun e w' => e = .returned (.tuple #[(.agg #[.int .i64 (asL (altS0 a0 a1 b0 b1 c0 c1) (altS1 a0 a1 b0 b1 c0 c1)), .int .i64 (asH (altS0 a0 a1 b0 b1 c0 c1) (altS1 a0 a1 b0 b1 c0 c1))]), .int .i64 (asE (altS0 a0 a1 b0 b1 c0 c1) (altS1 a0 a1 b0 b1 c0 c1))]) ∧ ∃ d, w' = bw w d := by
  have HO := Lib.hid (fun b W hc => cc_of b a0 a1 b0 b1 c0 c1 W hc va vb vc)
  have HM1 : Hid (∀ b W, ChW b W → Calls _ _ #[_, _, _] W fun e w' => e = .returned (.agg #[.int .i64 (ccL a0 a1 b0 b1), .int .i64 (ccH a0 a1 b0 b1)]) ∧ _) := Lib.hid (fun b W hc => cc_mul b (cosL a0 a1) (cosH a0 a1) (cosL b0 b1) (cosH b0 b1) W hc (unit_fx (cos_in2 _ _)) (unit_fx (cos_in2 _ _)) (unit_fx (cc_in _ _ _ _)))
  have HM2 : Hid (∀ b W, ChW b W → Calls _ _ #[_, _, _] W fun e w' => e = .returned (.agg #[.int .i64 (c3L a0 a1 b0 b1 c0 c1), .int .i64 (c3H a0 a1 b0 b1 c0 c1)]) ∧ _) := Lib.hid (fun b W hc => cc_mul b (ccL a0 a1 b0 b1) (ccH a0 a1 b0 b1) (cosL c0 c1) (cosH c0 c1) W hc (unit_fx (cc_in _ _ _ _)) (unit_fx (cos_in2 _ _)) (unit_fx (c3_in _ _ _ _ _ _)))
  have HM3 : Hid (∀ b W, ChW b W → Calls _ _ #[_, _, _] W fun e w' => e = .returned (.agg #[.int .i64 (ssL a0 a1 b0 b1), .int .i64 (ssH a0 a1 b0 b1)]) ∧ _) := Lib.hid (fun b W hc => cc_mul b (encL a0 a1) (encH a0 a1) (encL b0 b1) (encH b0 b1) W hc (unit_fx enc_in) (unit_fx enc_in) (unit_fx (ss_in _ _ _ _)))
  have HD : Hid (∀ b W, ChW b W → Calls _ _ #[_, _, _] W fun e w' => e = .returned (.agg #[.int .i64 (altS0 a0 a1 b0 b1 c0 c1), .int .i64 (altS1 a0 a1 b0 b1 c0 c1)]) ∧ _) := Lib.hid (fun b W hc => cc_add b (ssL a0 a1 b0 b1) (ssH a0 a1 b0 b1) (c3L a0 a1 b0 b1 c0 c1) (c3H a0 a1 b0 b1 c0 c1) W hc (unit_fx (ss_in _ _ _ _)) (unit_fx (c3_in _ _ _ _ _ _)) (alt_fx _ _ _ _ _ _))
  have HA := Lib.hid (fun W => ar_Asin (altS0 a0 a1 b0 b1 c0 c1) (altS1 a0 a1 b0 b1 c0 c1) W)
  generalize asL (altS0 a0 a1 b0 b1 c0 c1) (altS1 a0 a1 b0 b1 c0 c1) = u at *
  generalize asH (altS0 a0 a1 b0 b1 c0 c1) (altS1 a0 a1 b0 b1 c0 c1) = v at *
  generalize asE (altS0 a0 a1 b0 b1 c0 c1) (altS1 a0 a1 b0 b1 c0 c1) = k at *
  generalize altS0 a0 a1 b0 b1 c0 c1 = x0 at *
  generalize altS1 a0 a1 b0 b1 c0 c1 = x1 at *
  generalize c3L a0 a1 b0 b1 c0 c1 = y0 at *
  generalize c3H a0 a1 b0 b1 c0 c1 = y1 at *
  generalize ccL a0 a1 b0 b1 = z0 at *
  generalize ccH a0 a1 b0 b1 = z1 at *
  generalize ssL a0 a1 b0 b1 = s0 at *
  generalize ssH a0 a1 b0 b1 = s1 at *
  generalize encL a0 a1 = p1 at *
  generalize encH a0 a1 = q1 at *
  generalize encL b0 b1 = p2 at *
  generalize encH b0 b1 = q2 at *
  generalize encL c0 c1 = p3 at *
  generalize encH c0 c1 = q3 at *
  generalize cosL a0 a1 = r1 at *
  generalize cosH a0 a1 = t1 at *
  generalize cosL b0 b1 = r2 at *
  generalize cosH b0 b1 = t2 at *
  generalize cosL c0 c1 = r3 at *
  generalize cosH c0 c1 = t3 at *
  clear va vb vc
  refine lay_start ?_
  go_enter Tryz.func178, Tryz.ntmps178
  go_wp2_with fail
  have hch : ChW (posn w [1, 1]) (lay w [.inl (Obj.cells #[.int .i64 0] 230), .inl (Obj.cells #[.int .i64 0, .int .i64 0] 23), .inl (Obj.cells #[.int .i64 a0, .int .i64 a1, .int .i64 b0, .int .i64 b1, .int .i64 c0, .int .i64 c1] 45)]) := chW_new w _ _ _ rfl
  refine (HO.out _ _ hch).mono ?_
  rintro e w' ⟨rfl, d1, rfl⟩
  rw [lay_bw]
  go_wp2_with fail
  have HC := Lib.hid (fun e : Ext => hch.on [.inr e, .inl (Obj.cells #[.int .i64 p1, .int .i64 q1, .int .i64 r1, .int .i64 t1, .int .i64 p2, .int .i64 q2, .int .i64 r2, .int .i64 t2, .int .i64 p3, .int .i64 q3, .int .i64 r3, .int .i64 t3] 232), .inr d1])
  simp only [List.cons_append, List.nil_append] at HC
  clear hch
  refine region_mixW [0, 0, 0, 0, 0, 0, 0, 0, 0, 0, 0, 0, 0, 0, 0, 0, 0, 0, 1, 1] (by kernel_rfl) (by kernel_rfl) (by kernel_rfl) ?_
  repeat (first | (refine wpM_quiet (fun K hK => ?_); go_simp; first | (refine hK _ ?_; clear hK K) | (apply Exists.intro; refine ⟨fun _ => ?_, hK _ ?_⟩; (first | (go_at_call 231; first | ((with_reducible refine bq (HM1.out _ _ (HC.out _)) ?_); first | exact (fun d => ⟨d, rfl⟩) | exact (fun d => lay_join _ _ _ d)) | ((with_reducible refine bq (HM2.out _ _ (HC.out _)) ?_); first | exact (fun d => ⟨d, rfl⟩) | exact (fun d => lay_join _ _ _ d)) | ((with_reducible refine bq (HM3.out _ _ (HC.out _)) ?_); first | exact (fun d => ⟨d, rfl⟩) | exact (fun d => lay_join _ _ _ d))) | (go_at_call 230; (with_reducible refine bq (HD.out _ _ (HC.out _)) ?_); first | exact (fun d => ⟨d, rfl⟩) | exact (fun d => lay_join _ _ _ d))); clear hK K)) | (refine wpM_special (fun K hK d => ?_); go_simp; refine hK _ _ (by first | exact lay_in w [_] _ | exact lay_in w [_, _] _ | exact lay_in w [_, _, _] _ | exact lay_in w [_, _, _, _] _ | exact lay_in w [_, _, _, _, _] _ | exact lay_in w [_, _, _, _, _, _] _) ?_; clear hK K))
  refine wpM_nil ?_
  intro d
  rw [lay_bw]
  go_wp2_with (go_at_call 46; refine (HA.out _).mono ?_; rintro e w' ⟨rfl, d3, rfl⟩; rw [lay_bw])
  exact bodyPost_ret (v := .tuple #[(.agg #[.int .i64 (u), .int .i64 (v)]), .int .i64 k]) (by simp [results, Tryz.results178, go_sem]) rfl ⟨rfl, lay_ex _ _⟩
theorem cos_Altitude (a0 a1 b0 b1 c0 c1 : Int) (w : World) (h : triB a0 a1 b0 b1 c0 c1 = true) :
    Calls Tryz.prog 92 #[(.agg #[.int .i64 (a0), .int .i64 (a1), .int .i64 (b0), .int .i64 (b1), .int .i64 (c0), .int .i64 (c1)])] w fun e w' => e = .returned (.tuple #[(.agg #[.int .i64 (asL (altS0 a0 a1 b0 b1 c0 c1) (altS1 a0 a1 b0 b1 c0 c1)), .int .i64 (asH (altS0 a0 a1 b0 b1 c0 c1) (altS1 a0 a1 b0 b1 c0 c1))]), .int .i64 (asE (altS0 a0 a1 b0 b1 c0 c1) (altS1 a0 a1 b0 b1 c0 c1))]) ∧ ∃ d, w' = bw w d := by
  have HV := Lib.hid (fun W => cos_Valid a0 a1 b0 b1 c0 c1 W)
  rw [h] at HV
  unfold triB at h
  simp only [Bool.and_eq_true] at h
  have HA := Lib.hid (fun W => cos_altitude a0 a1 b0 b1 c0 c1 W (lat_valid h.1.1) (lat_valid h.1.2) h.2)
  generalize asL (altS0 a0 a1 b0 b1 c0 c1) (altS1 a0 a1 b0 b1 c0 c1) = u at *
  generalize asH (altS0 a0 a1 b0 b1 c0 c1) (altS1 a0 a1 b0 b1 c0 c1) = v at *
  generalize asE (altS0 a0 a1 b0 b1 c0 c1) (altS1 a0 a1 b0 b1 c0 c1) = k at *
  clear h
  refine lay_start ?_
  go_enter Tryz.func92, Tryz.ntmps92
  go_wp2_with (first | (go_at_call 82; refine (HV.out _).mono ?_; rintro e w' ⟨rfl, d1, rfl⟩; rw [lay_bw]) | (go_at_call 178; refine (HA.out _).mono ?_; rintro e w' ⟨rfl, d2, rfl⟩; rw [lay_bw]))
  exact bodyPost_ret (v := .tuple #[(.agg #[.int .i64 (u), .int .i64 (v)]), .int .i64 k]) (by simp [results, Tryz.results92, go_sem]) rfl ⟨rfl, lay_ex _ _⟩
end Go.Proofs.YtnnmfdeeicpdlaaGreat
/- The altitude of a body over a place: the program's and the reference's; Above. -/
namespace Go.Proofs.YtnnmfdeeicpdlaaGreat
set_option maxHeartbeats 4000000
set_option maxRecDepth 100000
open Go.RowKit Go.Shelf

theorem made_altitude {w : World} {bk : Nat} {lp : List PgV} {ls : List StarV} {W : World} (h : BkA w bk lp ls W) (k : NewOk lp ls) (s : ByteArray) (a b u v x y : Int) (hu : latB u v = true) (L : List (Obj ⊕ Ext)) :
    Calls Tryz.prog 151 #[.pointer (some ⟨bk, 0, none⟩), .string s, (.agg #[.int .i64 (a), .int .i64 (b)]), (.agg #[.int .i64 (u), .int .i64 (v), .int .i64 (x), .int .i64 (y)])] (lay W L) fun e w' => e = .returned (.tuple #[(.agg #[.int .i64 (hzL lp ls s a b u v x y), .int .i64 (hzH lp ls s a b u v x y)]), .int .i64 (lhaE lp ls s a b x y)]) ∧ ∃ d, w' = bw (lay W L) d := by
  have HL := Lib.hid (fun L' => made_Lha (h.bw L) k s a b x y L')
  have HW := made_Where (h.bw L) k
  have HW2 := Lib.hid (fun L' => HW.out s a b L')
  rw [gv_eta] at HW2
  by_cases h0 : lhaE lp ls s a b x y = 0
  · have o := hz_ok k hu h0
    have w0 := (lhaE_z.1 h0).2.2
    have tri : triB u v (whR lp ls s a b).1.c (whR lp ls s a b).1.d (lhaL lp ls s a b x y) (lhaH lp ls s a b x y) = true := by unfold triB; rw [hu, o.dec, o.lha]; rfl
    have HA := Lib.hid (fun W => cos_Altitude _ _ _ _ _ _ W tri)
    have hE := o.asn
    have eL : asL (altS0 u v (whR lp ls s a b).1.c (whR lp ls s a b).1.d (lhaL lp ls s a b x y) (lhaH lp ls s a b x y)) (altS1 u v (whR lp ls s a b).1.c (whR lp ls s a b).1.d (lhaL lp ls s a b x y) (lhaH lp ls s a b x y)) = hzL lp ls s a b u v x y := by unfold hzL hzS0 hzS1; rw [if_pos h0]
    have eH : asH (altS0 u v (whR lp ls s a b).1.c (whR lp ls s a b).1.d (lhaL lp ls s a b x y) (lhaH lp ls s a b x y)) (altS1 u v (whR lp ls s a b).1.c (whR lp ls s a b).1.d (lhaL lp ls s a b x y) (lhaH lp ls s a b x y)) = hzH lp ls s a b u v x y := by unfold hzH hzS0 hzS1; rw [if_pos h0]
    unfold hzS0 hzS1 at hE
    rw [hE, eL, eH] at HA
    rw [w0] at HW2
    rw [h0] at HL ⊢
    clear eL eH hE tri w0 o h0 HW h k hu
    generalize hzL lp ls s a b u v x y = RL at *
    generalize hzH lp ls s a b u v x y = RH at *
    generalize lhaL lp ls s a b x y = p at *
    generalize lhaH lp ls s a b x y = q at *
    generalize (whR lp ls s a b).1 = G at *
    obtain ⟨r1, r2, r3, r4, r5, r6, r7, r8⟩ := G
    dsimp only at *
    generalize lay W L = w at *
    refine lay_start ?_
    go_enter Tryz.func151, Tryz.ntmps151
    go_wp2_with (first | (go_at_call 32; refine (HL.out _).mono ?_; rintro e w' ⟨rfl, d1, rfl⟩; rw [lay_bw]) | (go_at_call 30; refine (HW2.out _).mono ?_; rintro e w' ⟨rfl, d2, rfl⟩; rw [lay_bw]) | (go_at_call 92; refine (HA.out _).mono ?_; rintro e w' ⟨rfl, d3, rfl⟩; rw [lay_bw]))
    exact bodyPost_ret (v := .tuple #[(.agg #[.int .i64 (RL), .int .i64 (RH)]), .int .i64 0]) (by simp [results, Tryz.results151, go_sem]) rfl ⟨rfl, lay_ex _ _⟩
  · have eL : hzL lp ls s a b u v x y = 0 := by unfold hzL; rw [if_neg h0]
    have eH : hzH lp ls s a b u v x y = 0 := by unfold hzH; rw [if_neg h0]
    rw [eL, eH]
    clear eL eH HW HW2 h k hu
    generalize lhaE lp ls s a b x y = E at *
    generalize lhaL lp ls s a b x y = p at *
    generalize lhaH lp ls s a b x y = q at *
    have e1 : (E != 0) = true := by simpa using h0
    have e2 : (E == 0) = false := beq_eq_false_iff_ne.2 h0
    generalize lay W L = w at *
    refine lay_start ?_
    go_enter Tryz.func151, Tryz.ntmps151
    go_wp2_with (first | (go_at_call 32; refine (HL.out _).mono ?_; rintro e w' ⟨rfl, d1, rfl⟩; rw [lay_bw]))
    exact bodyPost_ret (v := .tuple #[(.agg #[.int .i64 (0), .int .i64 (0)]), .int .i64 E]) (by simp [results, Tryz.results151, go_sem]) rfl ⟨rfl, lay_ex _ _⟩
noncomputable def abE (lp : List PgV) (ls : List StarV) (s : ByteArray) (a b u v x y : Int) : Int := if timB a b = true ∧ plcR u v x y = true then lhaE lp ls s a b x y else 1
noncomputable def abN (lp : List PgV) (ls : List StarV) (s : ByteArray) (a b u v x y : Int) : Int := if abE lp ls s a b u v x y = 0 then sdI (hzL lp ls s a b u v x y) (hzH lp ls s a b u v x y) 0 else 0
theorem abE_bad {lp : List PgV} {ls : List StarV} {s : ByteArray} {a b u v x y : Int} (h : plcW u v x y = false) : abE lp ls s a b u v x y = 1 := by
  unfold abE
  rw [if_neg]
  rintro ⟨-, h2⟩
  unfold plcR at h2
  unfold plcW at h
  rw [Bool.and_eq_true] at h2
  rw [h2.1, (lonB_valid h2.2).2] at h
  cases h
theorem abE_good {lp : List PgV} {ls : List StarV} {s : ByteArray} {a b u v x y : Int} (ht : timB a b = true) (h : plcW u v x y = true) : abE lp ls s a b u v x y = lhaE lp ls s a b x y ∧ latB u v = true := by
  unfold plcW at h
  rw [Bool.and_eq_true] at h
  refine ⟨?_, h.1⟩
  unfold abE
  by_cases hp : plcR u v x y = true
  · rw [if_pos ⟨ht, hp⟩]
  · rw [if_neg (fun g => hp g.2)]
    have hv : validB x y = false := by
      cases e : validB x y
      · rfl
      · exact absurd (show plcR u v x y = true by unfold plcR; rw [h.1, lonW_valid h.2 e]; rfl) hp
    unfold lhaE
    rw [if_pos (.inr hv)]
theorem made_Above {w : World} {bk : Nat} {lp : List PgV} {ls : List StarV} {W : World} (h : BkA w bk lp ls W) (k : NewOk lp ls) (s : ByteArray) (a b u v x y : Int) (L : List (Obj ⊕ Ext)) :
    Calls Tryz.prog 62 #[.pointer (some ⟨bk, 0, none⟩), .string s, (.agg #[.int .i64 (a), .int .i64 (b)]), (.agg #[.int .i64 (u), .int .i64 (v), .int .i64 (x), .int .i64 (y)])] (lay W L) fun e w' => e = .returned (.tuple #[.int .i64 (abN lp ls s a b u v x y), .int .i64 (abE lp ls s a b u v x y)]) ∧ ∃ d, w' = bw (lay W L) d := by
  have HA := Lib.hid (fun hu L' => made_altitude (h.bw L) k s a b u v x y hu L')
  have HT := Lib.hid (fun W => clock_Valid a b W)
  have HP := Lib.hid (fun W => plc_Valid u v x y W)
  clear h k
  cases ht : timB a b
  · have e1 : abE lp ls s a b u v x y = 1 := by unfold abE; rw [if_neg (by rw [ht]; simp)]
    have e2 : abN lp ls s a b u v x y = 0 := by unfold abN; rw [if_neg (by rw [e1]; decide)]
    rw [e1, e2]
    rw [ht] at HT
    clear e1 e2 HA ht
    generalize lay W L = w at *
    refine lay_start ?_
    go_enter Tryz.func62, Tryz.ntmps62
    go_wp2_with (first | (go_at_call 106; refine (HT.out _).mono ?_; rintro e w' ⟨rfl, d1, rfl⟩; rw [lay_bw]) | (go_at_call 150; refine (HP.out _).mono ?_; rintro e w' ⟨rfl, d2, rfl⟩; rw [lay_bw]))
    exact bodyPost_ret (v := .tuple #[.int .i64 0, .int .i64 1]) (by simp [results, Tryz.results62, go_sem]) rfl ⟨rfl, lay_ex _ _⟩
  · rw [ht] at HT
    cases hp : plcW u v x y
    · have e1 := abE_bad (lp := lp) (ls := ls) (s := s) (a := a) (b := b) hp
      have e2 : abN lp ls s a b u v x y = 0 := by unfold abN; rw [if_neg (by rw [e1]; decide)]
      rw [e1, e2]
      rw [hp] at HP
      clear e1 e2 HA ht hp
      generalize lay W L = w at *
      refine lay_start ?_
      go_enter Tryz.func62, Tryz.ntmps62
      go_wp2_with (first | (go_at_call 106; refine (HT.out _).mono ?_; rintro e w' ⟨rfl, d1, rfl⟩; rw [lay_bw]) | (go_at_call 150; refine (HP.out _).mono ?_; rintro e w' ⟨rfl, d2, rfl⟩; rw [lay_bw]))
      exact bodyPost_ret (v := .tuple #[.int .i64 0, .int .i64 1]) (by simp [results, Tryz.results62, go_sem]) rfl ⟨rfl, lay_ex _ _⟩
    · obtain ⟨e1, hu⟩ := abE_good (lp := lp) (ls := ls) (s := s) ht hp
      rw [hp] at HP
      have HB := Lib.hid (fun L' => HA.out hu L')
      have HS := Lib.hid (fun W => hz_side (hzL lp ls s a b u v x y) (hzH lp ls s a b u v x y) 0 W)
      have e2 : abN lp ls s a b u v x y = if lhaE lp ls s a b x y = 0 then sdI (hzL lp ls s a b u v x y) (hzH lp ls s a b u v x y) 0 else 0 := by unfold abN; rw [e1]
      rw [e1, e2]
      clear e1 e2 HA ht hp hu
      generalize hzL lp ls s a b u v x y = p at *
      generalize hzH lp ls s a b u v x y = q at *
      generalize lhaE lp ls s a b x y = E at *
      generalize sdI p q 0 = D at *
      generalize lay W L = w at *
      by_cases h0 : E = 0
      · subst h0
        rw [if_pos rfl]
        refine lay_start ?_
        go_enter Tryz.func62, Tryz.ntmps62
        go_wp2_with (first | (go_at_call 106; refine (HT.out _).mono ?_; rintro e w' ⟨rfl, d1, rfl⟩; rw [lay_bw]) | (go_at_call 150; refine (HP.out _).mono ?_; rintro e w' ⟨rfl, d2, rfl⟩; rw [lay_bw]) | (go_at_call 151; refine (HB.out _).mono ?_; rintro e w' ⟨rfl, d3, rfl⟩; rw [lay_bw]) | (go_at_call 152; refine (HS.out _).mono ?_; rintro e w' ⟨rfl, d4, rfl⟩; rw [lay_bw]))
        exact bodyPost_ret (v := .tuple #[.int .i64 D, .int .i64 0]) (by simp [results, Tryz.results62, go_sem]) rfl ⟨rfl, lay_ex _ _⟩
      · rw [if_neg h0]
        have e1 : (E != 0) = true := by simpa using h0
        have e2 : (E == 0) = false := beq_eq_false_iff_ne.2 h0
        refine lay_start ?_
        go_enter Tryz.func62, Tryz.ntmps62
        go_wp2_with (first | (go_at_call 106; refine (HT.out _).mono ?_; rintro e w' ⟨rfl, d1, rfl⟩; rw [lay_bw]) | (go_at_call 150; refine (HP.out _).mono ?_; rintro e w' ⟨rfl, d2, rfl⟩; rw [lay_bw]) | (go_at_call 151; refine (HB.out _).mono ?_; rintro e w' ⟨rfl, d3, rfl⟩; rw [lay_bw]))
        exact bodyPost_ret (v := .tuple #[.int .i64 0, .int .i64 E]) (by simp [results, Tryz.results62, go_sem]) rfl ⟨rfl, lay_ex _ _⟩
end Go.Proofs.YtnnmfdeeicpdlaaGreat
/- Phase: the program's and the reference's. -/
namespace Go.Proofs.YtnnmfdeeicpdlaaGreat
open Go.RowKit Go.Shelf

set_option maxHeartbeats 1000000 in
theorem hz_here (bk : Nat) (u x : Int) (w : World) :
    Calls Tryz.prog 74 #[.pointer (some ⟨bk, 0, none⟩), (.agg #[.int .i64 (u), .int .i64 (x)])] w fun e w' => e = .returned (if ptB u x = true then .tuple #[(.agg #[.int .i64 (u), .int .i64 (u), .int .i64 (x), .int .i64 (x)]), .int .i64 0] else .tuple #[(.agg #[.int .i64 (0), .int .i64 (0), .int .i64 (0), .int .i64 (0)]), .int .i64 1]) ∧ ∃ d, w' = bw w d := by
  have HA := Lib.hid (fun W => plc_Of u x W)
  generalize ptB u x = p at *
  cases p
  · refine lay_start ?_
    go_enter Tryz.func74, Tryz.ntmps74
    go_wp2_with (go_at_call 166; refine (HA.out _).mono ?_; rintro e w' ⟨rfl, d1, rfl⟩; rw [lay_bw, if_neg (by decide)])
    exact bodyPost_ret (v := .tuple #[(.agg #[.int .i64 (0), .int .i64 (0), .int .i64 (0), .int .i64 (0)]), .int .i64 1]) (by simp [results, Tryz.results74, go_sem]) rfl ⟨by simp, lay_ex _ _⟩
  · refine lay_start ?_
    go_enter Tryz.func74, Tryz.ntmps74
    go_wp2_with (go_at_call 166; refine (HA.out _).mono ?_; rintro e w' ⟨rfl, d1, rfl⟩; rw [lay_bw, if_pos rfl])
    exact bodyPost_ret (v := .tuple #[(.agg #[.int .i64 (u), .int .i64 (u), .int .i64 (x), .int .i64 (x)]), .int .i64 0]) (by simp [results, Tryz.results74, go_sem]) rfl ⟨by simp, lay_ex _ _⟩
end Go.Proofs.YtnnmfdeeicpdlaaGreat

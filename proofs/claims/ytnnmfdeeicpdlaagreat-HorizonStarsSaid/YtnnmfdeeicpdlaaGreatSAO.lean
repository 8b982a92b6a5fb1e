/- Contracts and plain laws, several texts in one: Sta3; Sta4; Nw0; Nw1; Nw2; Bod -/
import Derived.Test.YtnnmfdeeicpdlaaGreatProg
import Derived.WalkKit
import Derived.WalkSpells
import Derived.WalkLawsBesides
import Derived.Lib.Hide
import Derived.BigQuiet
import Derived.Test.YtnnmfdeeicpdlaaGreatSAA
import Derived.Test.YtnnmfdeeicpdlaaGreatSAD
import Derived.Test.YtnnmfdeeicpdlaaGreatSAI
import Derived.Test.YtnnmfdeeicpdlaaGreatSAL
import Derived.Test.YtnnmfdeeicpdlaaGreatSAN
/- Valid catalogues, in the program and in the reference. -/
namespace Go.Proofs.YtnnmfdeeicpdlaaGreat
open Go.RowKit Go.Shelf

def StOk1 (l : List StarV) (i : Nat) (x : StarV) : Prop := nameB x.s = true ∧ numB x.sha x.dec x.mag = true ∧ fndS l x.s = (i : Int)
structure Cat (l : List StarV) : Prop where
  len : l.length ≤ 100
  ok : ∀ i x, l[i]? = some x → StOk1 l i x
noncomputable def catB (l : List StarV) : Bool := @decide (Cat l) (Classical.propDecidable _)
theorem catB_iff {l : List StarV} : catB l = true ↔ Cat l := by unfold catB; simp
theorem catB_no {l : List StarV} (h : ¬ Cat l) : false = catB l := by cases e : catB l; rfl; exact absurd (catB_iff.1 e) h
theorem catB_yes {l : List StarV} (h : Cat l) : true = catB l := (catB_iff.2 h).symm
theorem cat_big {l : List StarV} (h : 100 < l.length) : ¬ Cat l := fun c => by have := c.len; omega
theorem cat_bad {l : List StarV} {i : Nat} {x : StarV} (hx : l[i]? = some x) (h : ¬ StOk1 l i x) : ¬ Cat l := fun c => h (c.ok i x hx)
theorem cat_all {l : List StarV} {n : Nat} (hn : l.length = n) (hl : n ≤ 100) (h : ∀ i x, i < n → l[i]? = some x → StOk1 l i x) : Cat l := ⟨by omega, fun i x hx => h i x (by have := (List.getElem?_eq_some_iff.1 hx).1; omega) hx⟩
set_option maxHeartbeats 4000000 in
set_option maxRecDepth 100000 in
theorem cat_Valid (v : Value) (l : List StarV) (w : World) (hv : SlG stR w v l) :
    Calls Tryz.prog 66 #[v] w fun e w' => e = .returned (.bool (catB l)) ∧ ∃ d, w' = bw w d := by
  have HV := Lib.hid hv
  by_cases hbig : 100 < l.length
  · have HB := Lib.hid (catB_no (cat_big hbig))
    obtain ⟨a, c, rfl⟩ := hv.form
    have t1 : decide ((100 : Int) < (l.length : Int)) = true := decide_eq_true (by omega)
    clear hv hbig HV
    generalize l.length = m at *
    refine lay_start ?_
    go_enter Tryz.func66, Tryz.ntmps66
    go_wp2
    go_ret
    exact ⟨ret_bool HB.out, lay_ex _ _⟩
  · have t1 : decide ((100 : Int) < (l.length : Int)) = false := decide_eq_false (by omega)
    by_cases hz : l = []
    · subst hz
      have HB := Lib.hid (catB_yes (cat_all (l := []) (n := 0) rfl (by decide) (fun i _ hi => absurd hi (Nat.not_lt_zero i))))
      obtain ⟨a, c, rfl⟩ := hv.form
      refine lay_start ?_
      go_enter Tryz.func66, Tryz.ntmps66
      go_wp2_with fail
      refine wp_loop_rounds 1 ?_
      rw [rounds_succ]
      go_wp2
      go_ret
      exact ⟨ret_bool HB.out, lay_ex _ _⟩
    · obtain ⟨b, o, c, rfl, hc, hb, hr⟩ := hv.open (List.length_pos_iff.2 hz)
      have HI := Lib.hid (fun W s (q : SlG stR W (.slice (some ⟨b, o, none⟩) l.length c) l) => cat_index _ l s W q)
      have HWf := Lib.hid hv.wf
      have HBad := Lib.hid (fun i x hx (h : ¬ StOk1 l i x) => catB_no (cat_bad hx h))
      have HAll := Lib.hid (fun (h : ∀ i x, i < l.length → l[i]? = some x → StOk1 l i x) => catB_yes (cat_all rfl (by omega) h))
      obtain ⟨m, hm⟩ : ∃ m, l.length = m := ⟨_, rfl⟩
      have HM := Lib.hid hm
      have HR : Hid (∀ i x, l[i]? = some x → w.cell? ⟨b, o + i * 4, none⟩ = some (.string x.s) ∧ w.cell? ⟨b, o + i * 4 + 1, none⟩ = some (.int .i64 x.sha) ∧ w.cell? ⟨b, o + i * 4 + 2, none⟩ = some (.int .i64 x.dec) ∧ w.cell? ⟨b, o + i * 4 + 3, none⟩ = some (.int .i64 x.mag)) :=
        Lib.hid (fun i x hx => ⟨hr i x hx 0 _ rfl, hr i x hx 1 _ rfl, hr i x hx 2 _ rfl, hr i x hx 3 _ rfl⟩)
      rw [hm] at hc HV HI HAll hbig t1 ⊢
      clear hz hm hr hv
      refine lay_start ?_
      go_enter Tryz.func66, Tryz.ntmps66
      go_wp2_with fail
      go_loopw [10] (fun i wr => ∃ (k : Nat) (d : Ext), k ≤ m ∧ i = .int .i64 k ∧ wr = lay w [.inr d] ∧ ∀ i x, i < k → l[i]? = some x → StOk1 l i x) (fun i _ => m - (intOf i).toNat)
      case atStart => exact ⟨0, noExt _, Nat.zero_le _, rfl, (bw_noExt _).symm, fun i x hi => by omega⟩
      case round =>
        obtain ⟨k, d, hk, rfl, rfl, hA⟩ := hrel
        have HA := Lib.hid hA
        clear hA
        by_cases hlt : k < m
        · obtain ⟨x, hx⟩ : ∃ x, l[k]? = some x := ⟨_, List.getElem?_eq_getElem (by rw [HM.out]; exact hlt)⟩
          obtain ⟨e0, e1, e2, e3⟩ := HR.out k x hx
          have hsz := (HWf.out x (List.mem_of_getElem? hx)).1
          have HNo := Lib.hid (HBad.out k x hx)
          have HYes : Hid (StOk1 l k x → ∀ i y, i < k + 1 → l[i]? = some y → StOk1 l i y) := Lib.hid (fun h i y hi hy => by
            by_cases e : i = k
            · subst e
              rw [hx] at hy
              cases hy; exact h
            · exact HA.out i y (by omega) hy)
          have hst : StOk1 l k x ↔ nameB x.s = true ∧ numB x.sha x.dec x.mag = true ∧ fndS l x.s = (k : Int) := Iff.rfl
          have HSt := Lib.hid hst
          have x1 : (k : Int) < (m : Int) := by omega
          clear hx hst
          obtain ⟨xs, xa, xb, xc⟩ := x
          dsimp only at e0 e1 e2 e3 hsz HSt
          have HN1 := Lib.hid (fun W => dec_IsName xs W hsz)
          have HN2 := Lib.hid (fun W => cat_numbers xs xa xb xc W)
          have HN3 := Lib.hid (fun W q => HI.out W xs q)
          generalize nameB xs = P1 at *
          generalize numB xa xb xc = P2 at *
          generalize fndS l xs = J at *
          have hcase : (P1 = true ∧ P2 = true ∧ J = (k : Int)) ∨ (¬ StOk1 l k ⟨xs, xa, xb, xc⟩ ∧ (P1 = false ∨ (P1 = true ∧ P2 = false) ∨ (P1 = true ∧ P2 = true ∧ (J == (k : Int)) = false))) := by
            cases P1
            · exact .inr ⟨(fun h => absurd (HSt.out.1 h).1 (by decide)), .inl rfl⟩
            · cases P2
              · exact .inr ⟨(fun h => absurd (HSt.out.1 h).2.1 (by decide)), .inr (.inl ⟨rfl, rfl⟩)⟩
              · by_cases hj : J = (k : Int)
                · exact .inl ⟨rfl, rfl, hj⟩
                · exact .inr ⟨fun h => hj (HSt.out.1 h).2.2, .inr (.inr ⟨rfl, rfl, beq_eq_false_iff_ne.2 hj⟩)⟩
          rcases hcase with ⟨rfl, rfl, rfl⟩ | ⟨hno, hw⟩
          · have HY2 := Lib.hid (HYes.out (HSt.out.2 ⟨rfl, rfl, rfl⟩))
            go_wp2_with (first | (go_at_call 155; refine (HN1.out _).mono ?_; rintro e w' ⟨rfl, rfl⟩) | (go_at_call 156; refine (HN2.out _).mono ?_; rintro e w' ⟨rfl, d, rfl⟩) | (go_at_call 157; refine (HN3.out _ (HV.out.lay _)).mono ?_; rintro e w' ⟨rfl, d, rfl⟩))
            go_roundw
            case rel => exact ⟨k + 1, _, by omega, by go_num, Classical.choose_spec (lay_all w _), HY2.out⟩
            case measure => simp [intOf]; omega
          · have HB := Lib.hid (HNo.out hno)
            clear hno
            rcases hw with rfl | ⟨rfl, rfl⟩ | ⟨rfl, rfl, t9⟩
            all_goals
              go_wp2_with (first | (go_at_call 155; refine (HN1.out _).mono ?_; rintro e w' ⟨rfl, rfl⟩) | (go_at_call 156; refine (HN2.out _).mono ?_; rintro e w' ⟨rfl, d, rfl⟩) | (go_at_call 157; refine (HN3.out _ (HV.out.lay _)).mono ?_; rintro e w' ⟨rfl, d, rfl⟩))
              go_ret
              exact ⟨ret_bool HB.out, lay_ex _ _⟩
        · have HB := Lib.hid (HAll.out (fun i x hi hx => HA.out i x (by omega) hx))
          have x1 : ¬ (k : Int) < (m : Int) := by omega
          go_wp2
          go_ret
          exact ⟨ret_bool HB.out, lay_ex _ _⟩
end Go.Proofs.YtnnmfdeeicpdlaaGreat
/- Valid catalogues in the reference. -/
namespace Go.Proofs.YtnnmfdeeicpdlaaGreat
open Go.RowKit Go.Shelf

end Go.Proofs.YtnnmfdeeicpdlaaGreat
/- almanac.New without pages: what it calls. -/
namespace Go.Proofs.YtnnmfdeeicpdlaaGreat
open Go.RowKit Go.Shelf

def isA (s : ByteArray) : Bool := s.toList == [65, 114, 105, 101, 115]
set_option maxHeartbeats 1000000 in
theorem st_ContainsFunc (g : FuncId) (lb : List Value) (p : StarV → Bool) (v : Value) (l : List StarV) (w : World) (hv : SlG stR w v l)
    (eI : ∀ args w, (callFunc g args).run Tryz.prog w = .ok (.enter g args) w)
    (hf : ∀ x ∈ l, ∀ d, Calls Tryz.prog g (.agg (stR.enc x).toArray :: lb).toArray (bw w d) fun e w' => e = .returned (.bool (p x)) ∧ ∃ d, w' = bw w d) :
    Calls Tryz.prog 72 #[v, .func (.func g) #[] lb.toArray] w fun e w' => e = .returned (.bool (l.any p)) ∧ ∃ d, w' = bw w d := by
  have H := Lib.hid (st_IndexFunc g lb p v l w hv eI hf)
  have HS := Lib.hid (idxR_any p l 0)
  generalize idxR p l 0 = x at *
  generalize l.any p = y at *
  clear hf eI hv
  refine lay_start ?_
  go_enter Tryz.func72, Tryz.ntmps72
  go_wp2_with (go_at_call 107; refine H.out.mono ?_; rintro e w' ⟨rfl, d, rfl⟩)
  go_ret
  exact ⟨ret_bool HS.out, _, rfl⟩
end Go.Proofs.YtnnmfdeeicpdlaaGreat
/- almanac.New without pages. -/
namespace Go.Proofs.YtnnmfdeeicpdlaaGreat
open Go.RowKit Go.Shelf

theorem bk_new0 (w : World) (L : List (Obj ⊕ Ext)) (t : TypeId) (vd vp vs : Value) : Bk (lay w (.inl (.cells #[vd, vp, vs] t (0, 0)) :: L)) (posn w (shp L)) vd vp vs := by
  have h := lay_get w (.inl (.cells #[vd, vp, vs] t (0, 0)) :: L) 0 _ rfl
  refine ⟨(Array.getElem?_eq_some_iff.1 h).1, ?_, ?_, ?_⟩ <;> (unfold World.cell?; rw [show posn w (shp L) = posn w ((shp (.inl (.cells #[vd, vp, vs] t (0, 0)) :: L)).drop (0 + 1)) from rfl, h]; rfl)
end Go.Proofs.YtnnmfdeeicpdlaaGreat
/- Without pages: the reference's New, the law's made, large. -/
namespace Go.Proofs.YtnnmfdeeicpdlaaGreat
open Go.RowKit Go.Shelf

end Go.Proofs.YtnnmfdeeicpdlaaGreat
/- Rows of strings; (*almanac.Book).Bodies. -/
namespace Go.Proofs.YtnnmfdeeicpdlaaGreat
open Go.RowKit

def strR : RecT ByteArray := { E := 9, S := 116, k := 1, bytes := 16, enc := fun x => [.string x], wf := fun x => x.size ≤ 9223372036854775807 }
theorem info_str : (Tryz.prog.info? 9).map (fun i => (i.zero.map (fun z => z.cells.size), i.size, i.bytes)) = some (some 1, 1, 16) := by kernel_rfl
theorem strOk : RecOk strR where
  len _ := rfl
  one x u hu := by
    simp only [strR, List.mem_cons, List.not_mem_nil, or_false] at hu
    rcases hu with rfl
    rfl
  pos := by decide
  und := Tryz.underlying116
  info := recInfo info_str
  small := by decide
def StrPost (w : World) (T : List ByteArray) (e : Ending) (w' : World) : Prop := ∃ A c d, e = .returned (.slice A T.length c) ∧ w' = bw w d ∧ (A = none → c = 0) ∧ SlG strR (bw w d) (.slice A T.length c) T
def StrOwn (w : World) (T : List ByteArray) (e : Ending) (w' : World) : Prop := ∃ v d, e = .returned v ∧ w' = bw w d ∧ OwG strR (bw w d) w.heap.size v T
theorem str_flat1 (s : ByteArray) : (#[Value.string s] : Array Value).toList = [s].flatMap strR.enc := rfl
theorem aries_wf : ∀ x ∈ [ariesS], strR.wf x := by
  intro x hx
  rw [List.mem_singleton.1 hx]
  exact (by decide : ariesS.size ≤ 9223372036854775807)
end Go.Proofs.YtnnmfdeeicpdlaaGreat

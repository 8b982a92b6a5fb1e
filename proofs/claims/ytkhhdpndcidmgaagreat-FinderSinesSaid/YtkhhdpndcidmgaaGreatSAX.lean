/- Contracts and plain laws, several texts in one: Sta1; APlain; Sl; Pgs; Mpb; Cal; Cal2; Sta2; Pv; MixB; RowS; RowB; Cln; Rf4; PuS; DgP; DgQ; Dia; DgR; AvP; SoP; So1; So2; So3; Dib; Dic; Did; DgN; DgO; Nr1; Nr2; Nr3; Die; Dif; Dig; Nr4; Dih; Dii -/
import Derived.Test.YtkhhdpndcidmgaaGreatProg
import Derived.WalkKit
import Derived.WalkSpells
import Derived.WalkLawsBesides
import Derived.Lib.Hide
import Derived.BigQuiet
import Derived.Shelf.Abstract
import Derived.Deep.Slices
import Derived.Deep.AppendLies
import Derived.Laws.OwnMore
import Derived.WideShapes
import Derived.Lib.SmallJoins
import Derived.Maps.Own
import Derived.Maps.OwnOps
import Derived.Maps.Views
import Derived.Deep.RegionWith
import Derived.Maps.AppendAt
import Derived.Laws.AppendOwnNone
import Derived.Laws.MakeOwn
import Derived.Laws.Entries
import Derived.Test.YtkhhdpndcidmgaaGreatSAC
import Derived.Test.YtkhhdpndcidmgaaGreatSAD
import Derived.Test.YtkhhdpndcidmgaaGreatSAE
import Derived.Test.YtkhhdpndcidmgaaGreatSAF
import Derived.Test.YtkhhdpndcidmgaaGreatSAQ
import Derived.Test.YtkhhdpndcidmgaaGreatSAU
/- Stars as records: lists of stars that read; slices.IndexFunc and ContainsFunc over them; a star's numbers; the index of a name; valid catalogues. -/
namespace Go.Proofs.YtkhhdpndcidmgaaGreat
open Go.RowKit

structure StarV where
  s : ByteArray
  sha : Int
  dec : Int
  mag : Int
def stR : RecT StarV := { E := 42, S := 47, k := 4, bytes := 40, enc := fun x => [.string x.s, .int .i64 x.sha, .int .i64 x.dec, .int .i64 x.mag], wf := fun x => x.s.size ≤ 9223372036854775807 ∧ (Lit.int .i64 x.sha).wf = true ∧ (Lit.int .i64 x.dec).wf = true ∧ (Lit.int .i64 x.mag).wf = true }
theorem info_st : (Tryz.prog.info? 42).map (fun i => (i.zero.map (fun z => z.cells.size), i.size, i.bytes)) = some (some 4, 4, 40) := by kernel_rfl
theorem recInfo {E : TypeId} {k b : Nat} (h : (Tryz.prog.info? E).map (fun i => (i.zero.map (fun z => z.cells.size), i.size, i.bytes)) = some (some k, k, b)) : ∃ i z, Tryz.prog.info? E = some i ∧ i.zero = some z ∧ i.size = k ∧ i.bytes = b ∧ z.cells.size = k := by
  cases hi : Tryz.prog.info? E with
  | none => rw [hi] at h; cases h
  | some i =>
    rw [hi] at h
    simp only [Option.map_some, Option.some.injEq, Prod.mk.injEq] at h
    obtain ⟨h1, h2, h3⟩ := h
    cases hz : i.zero with
    | none => rw [hz] at h1; cases h1
    | some z =>
      rw [hz] at h1
      simp only [Option.map_some, Option.some.injEq] at h1
      exact ⟨i, z, rfl, hz, h2, h3, h1⟩
theorem stOk : RecOk stR where
  len _ := rfl
  one x u hu := by
    simp only [stR, List.mem_cons, List.not_mem_nil, or_false] at hu
    rcases hu with rfl | rfl | rfl | rfl <;> rfl
  pos := by decide
  und := Tryz.underlying47
  info := recInfo info_st
  small := by decide
def idxR {α : Type} (p : α → Bool) : List α → Nat → Int
  | [], _ => -1
  | x :: l, k => if p x then (k : Int) else idxR p l (k + 1)
theorem idxR_any {α : Type} (p : α → Bool) : ∀ (l : List α) (k : Nat), decide (0 ≤ idxR p l k) = l.any p
  | [], _ => rfl
  | x :: l, k => by
    unfold idxR
    rw [List.any_cons, ← idxR_any p l (k + 1)]
    cases p x
    · simp
    · simp
theorem idxR_miss {α : Type} {p : α → Bool} {l : List α} {k : Nat} {x : α} (hx : l[k]? = some x) (h : p x = false) (e : idxR p l 0 = idxR p (l.drop k) k) : idxR p l 0 = idxR p (l.drop (k + 1)) (k + 1) := by
  obtain ⟨hk, rfl⟩ := List.getElem?_eq_some_iff.1 hx
  rw [e, List.drop_eq_getElem_cons hk]
  show (if p l[k] then (k : Int) else _) = _
  rw [h]; rfl
theorem idxR_got {α : Type} {p : α → Bool} {l : List α} {k : Nat} {x : α} (hx : l[k]? = some x) (h : p x = true) (e : idxR p l 0 = idxR p (l.drop k) k) : (k : Int) = idxR p l 0 := by
  obtain ⟨hk, rfl⟩ := List.getElem?_eq_some_iff.1 hx
  rw [e, List.drop_eq_getElem_cons hk]
  show _ = (if p l[k] then (k : Int) else _)
  rw [h]; rfl
theorem idxR_end {α : Type} {p : α → Bool} {l : List α} {k : Nat} (hk : l.length ≤ k) (e : idxR p l 0 = idxR p (l.drop k) k) : (-1 : Int) = idxR p l 0 := by
  rw [e, List.drop_of_length_le hk]; rfl

def IdxPost (w : World) (x : Int) (e : Ending) (w' : World) : Prop := e = .returned (.int .i64 x) ∧ ∃ d, w' = bw w d
set_option maxHeartbeats 1000000 in
theorem st_IndexFunc (g : FuncId) (lb : List Value) (p : StarV → Bool) (v : Value) (l : List StarV) (w : World) (hv : SlG stR w v l)
    (eI : ∀ args w, (callFunc g args).run Tryz.prog w = .ok (.enter g args) w)
    (hf : ∀ x ∈ l, ∀ d, Calls Tryz.prog g (.agg (stR.enc x).toArray :: lb).toArray (bw w d) fun e w' => e = .returned (.bool (p x)) ∧ ∃ d, w' = bw w d) :
    Calls Tryz.prog 60 #[v, .func (.func g) #[] lb.toArray] w (IdxPost w (idxR p l 0)) := by
  by_cases hz : l = []
  · subst hz
    obtain ⟨a, cap, rfl⟩ := hv.form
    clear hf
    refine lay_start ?_
    go_enter Tryz.func60, Tryz.ntmps60
    go_wp2_with fail
    refine wp_loop_rounds 1 ?_
    rw [rounds_succ]
    go_wp2
    go_ret
    exact ⟨rfl, lay_ex _ _⟩
  · obtain ⟨b, o, cap, rfl, hc, hb, hr⟩ := hv.open (List.length_pos_iff.2 hz)
    obtain ⟨m, hm⟩ : ∃ m, l.length = m := ⟨_, rfl⟩
    have HF := Lib.hid hf
    have HM := Lib.hid hm
    rw [hm] at hc ⊢
    have HR : Hid (∀ i x, l[i]? = some x → w.cell? ⟨b, o + i * 4, none⟩ = some (.string x.s) ∧ w.cell? ⟨b, o + i * 4 + 1, none⟩ = some (.int .i64 x.sha) ∧ w.cell? ⟨b, o + i * 4 + 2, none⟩ = some (.int .i64 x.dec) ∧ w.cell? ⟨b, o + i * 4 + 3, none⟩ = some (.int .i64 x.mag)) :=
      Lib.hid (fun i x hx => ⟨hr i x hx 0 _ rfl, hr i x hx 1 _ rfl, hr i x hx 2 _ rfl, hr i x hx 3 _ rfl⟩)
    clear hf hz hm hr hv
    refine lay_start ?_
    go_enter Tryz.func60, Tryz.ntmps60
    go_wp2_with fail
    go_loopw [8] (fun i wr => ∃ (k : Nat) (d : Ext), k ≤ m ∧ i = .int .i64 k ∧ wr = lay w [.inr d] ∧ idxR p l 0 = idxR p (l.drop k) k) (fun i _ => m - (intOf i).toNat)
    case atStart => exact ⟨0, noExt _, Nat.zero_le _, rfl, (bw_noExt _).symm, rfl⟩
    case round =>
      obtain ⟨k, d, hk, rfl, rfl, hA⟩ := hrel
      have HA := Lib.hid hA
      clear hA
      by_cases hlt : k < m
      · obtain ⟨x, hx⟩ : ∃ x, l[k]? = some x := ⟨_, List.getElem?_eq_getElem (by rw [HM.out]; exact hlt)⟩
        obtain ⟨e0, e1, e2, e3⟩ := HR.out k x hx
        have H1 : Hid (Calls Tryz.prog g (.agg #[.string x.s, .int .i64 x.sha, .int .i64 x.dec, .int .i64 x.mag] :: lb).toArray (lay w [.inr d]) fun e w' => e = .returned (.bool (p x)) ∧ ∃ d, w' = bw w d) := Lib.hid (HF.out x (List.mem_of_getElem? hx) d)
        cases ho : p x
        · have HN := Lib.hid (idxR_miss hx ho HA.out)
          rw [ho] at H1
          clear ho hx
          obtain ⟨xs, x1, x2, x3⟩ := x
          dsimp only at e0 e1 e2 e3 H1
          go_wp2_with (refine H1.out.mono ?_; rintro e w' ⟨rfl, d1, rfl⟩)
          go_roundw
          case rel => exact ⟨k + 1, d1, by omega, by go_num, rfl, HN.out⟩
          case measure => simp [intOf]; omega
        · have HN := Lib.hid (idxR_got hx ho HA.out)
          rw [ho] at H1
          clear ho hx
          obtain ⟨xs, x1, x2, x3⟩ := x
          dsimp only at e0 e1 e2 e3 H1
          go_wp2_with (refine H1.out.mono ?_; rintro e w' ⟨rfl, d1, rfl⟩)
          go_ret
          exact ⟨ret_int HN.out, d1, rfl⟩
      · have HN := Lib.hid (idxR_end (k := k) (by rw [HM.out]; omega) HA.out)
        go_wp2
        go_ret
        exact ⟨ret_int HN.out, lay_ex _ _⟩
end Go.Proofs.YtkhhdpndcidmgaaGreat
/- Audit, the plain law: steps, differences, possible lists, repairs. No program in sight. -/
namespace Go.Proofs.YtkhhdpndcidmgaaGreat
open Go.RowKit

def nth (g : List Int) (i : Nat) : Int := g.getD i 0
end Go.Proofs.YtkhhdpndcidmgaaGreat
/- Slices of ints that are read; rows of ints of the call's own; an append to such a row. -/
namespace Go.Proofs.YtkhhdpndcidmgaaGreat
open Go.RowKit

section
variable {H : Type} {enc : TypeId × Value → H} {P : Program}
end

end Go.Proofs.YtkhhdpndcidmgaaGreat
/- Tracks and pages in memory: rows of records whose cells hold slices; what lies where ('P' of the blocks). -/
namespace Go.Proofs.YtkhhdpndcidmgaaGreat
open Go.RowKit

structure PgW where
  y : Int
  m : Int
  d : Int
  ta : Option Addr
  tn : Nat
  tc : Nat
def pgR : RecT PgW := { E := 94, S := 88, k := 4, bytes := 48, enc := fun x => [.int .i64 x.y, .int .i64 x.m, .int .i64 x.d, .slice x.ta x.tn x.tc], wf := fun x => (Lit.int .i64 x.y).wf = true ∧ (Lit.int .i64 x.m).wf = true ∧ (Lit.int .i64 x.d).wf = true }
theorem info_pg : (Tryz.prog.info? 94).map (fun i => (i.zero.map (fun z => z.cells.size), i.size, i.bytes)) = some (some 4, 4, 48) := by kernel_rfl
theorem pgOk : RecOk pgR where
  len _ := rfl
  one x u hu := by
    simp only [pgR, List.mem_cons, List.not_mem_nil, or_false] at hu
    rcases hu with rfl | rfl | rfl | rfl <;> rfl
  pos := by decide
  und := Tryz.underlying88
  info := recInfo info_pg
  small := by decide

structure PgV where
  y : Int
  m : Int
  d : Int
  ts : List TrkV
end Go.Proofs.YtkhhdpndcidmgaaGreat
/- A set of strings kept as a map of bools of the call's own. No function of the program. -/
namespace Go.Proofs.YtkhhdpndcidmgaaGreat
open Go.RowKit Go.Maps

end Go.Proofs.YtkhhdpndcidmgaaGreat
/- Dates: package calendar's numbers and the reference's. -/
namespace Go.Proofs.YtkhhdpndcidmgaaGreat
open Go.RowKit

set_option maxRecDepth 100000
set_option maxRecDepth 512
end Go.Proofs.YtkhhdpndcidmgaaGreat
/- Dates: valid ones, their numbers. -/
namespace Go.Proofs.YtkhhdpndcidmgaaGreat
open Go.RowKit

end Go.Proofs.YtkhhdpndcidmgaaGreat
/- Stars: their numbers, the index of a name. -/
namespace Go.Proofs.YtkhhdpndcidmgaaGreat
set_option maxHeartbeats 1000000
open Go.RowKit Go.Shelf

def numB (a b c : Int) : Bool := decide ((0 ≤ a ∧ a ≤ 215999) ∧ (-54000 ≤ b ∧ b ≤ 54000) ∧ -20 ≤ c ∧ c ≤ 150)
theorem cat_numbers (s : ByteArray) (a b c : Int) (w : World) :
    Calls Tryz.prog 87 #[.agg #[.string s, .int .i64 a, .int .i64 b, .int .i64 c]] w fun e w' => e = .returned (.bool (numB a b c)) ∧ ∃ d, w' = bw w d := by
  refine lay_start ?_
  go_enter Tryz.func87, Tryz.ntmps87
  go_wp2
  all_goals go_ret
  all_goals exact ⟨ret_bool (by first | (simp [numB, *]; done) | (rw [Bool.eq_iff_iff]; simp [numB, *]; done) | (rw [Bool.eq_iff_iff]; simp [numB]; omega)), lay_ex _ _⟩
def nmB (a b : ByteArray) : Bool := a.toList == b.toList
theorem cat_index1 (x : StarV) (s : ByteArray) (b : Nat) (w : World) (hb : b < w.heap.size) (hc : w.cell? ⟨b, 0, none⟩ = some (.string s)) :
    Calls Tryz.prog 122 #[.agg #[.string x.s, .int .i64 x.sha, .int .i64 x.dec, .int .i64 x.mag], .pointer (some ⟨b, 0, none⟩)] w fun e w' => e = .returned (.bool (nmB x.s s)) ∧ ∃ d, w' = bw w d := by
  obtain ⟨xs, x1, x2, x3⟩ := x
  dsimp only
  refine lay_start ?_
  go_enter Tryz.func122, Tryz.ntmps122
  go_wp2
  go_ret
  exact ⟨rfl, lay_ex _ _⟩
def fndS (l : List StarV) (s : ByteArray) : Int := idxR (fun x => nmB x.s s) l 0
theorem cat_index (v : Value) (l : List StarV) (s : ByteArray) (w : World) (hv : SlG stR w v l) :
    Calls Tryz.prog 88 #[v, .string s] w (IdxPost w (fndS l s)) := by
  have eI : ∀ args w, (callFunc 122 args).run Tryz.prog w = .ok (.enter 122 args) w := enters_of Tryz.func122 (by kernel_rfl) rfl
  have H := Lib.hid (st_IndexFunc 122 [.pointer (some ⟨posn w [], 0, none⟩)] (fun x => nmB x.s s) v l (lay w [.inl (.cells #[.string s] 9 (0, 0))]) (hv.lay _) eI (fun x _ d =>
    cat_index1 x s (posn w []) (lay w [.inr d, .inl (.cells #[.string s] 9 (0, 0))]) (by simp only [lay_size, shp, posn, List.sum_cons, List.sum_nil, Ext.n]; omega) (by simp [go_sem]) |>.mono fun e w' ⟨h1, d2, h2⟩ => ⟨h1, _, h2.trans (bw_bw _ _ _)⟩))
  obtain ⟨a, c, rfl⟩ := hv.form
  unfold fndS
  generalize idxR (fun x => nmB x.s s) l 0 = I at *
  generalize l.length = m at *
  clear eI hv
  refine lay_start ?_
  go_enter Tryz.func88, Tryz.ntmps88
  go_wp2_with fail
  refine H.out.mono ?_
  rintro e w' ⟨rfl, d1, rfl⟩
  rw [lay_bw]
  go_wp2
  go_ret
  exact ⟨rfl, lay_ex _ _⟩
end Go.Proofs.YtkhhdpndcidmgaaGreat
/- Valid pages: package page's, with its set of names. -/
namespace Go.Proofs.YtkhhdpndcidmgaaGreat
open Go.RowKit Go.Maps

end Go.Proofs.YtkhhdpndcidmgaaGreat
/- Regions that draw their order, by a schedule that may branch in two: where two operations that make memory are ready, each may come first. No program in sight. -/
namespace Go.Proofs.YtkhhdpndcidmgaaGreat
open Go.RowKit

section
variable {P : Program} {md : Region.Mode} {κ : Type} {Cl : κ → World} {l : List Oper} {ops : Array Oper}

end
end Go.Proofs.YtkhhdpndcidmgaaGreat
/- An append to a row of records, at a step of a region that draws its order. No function of the program. -/
namespace Go.Proofs.YtkhhdpndcidmgaaGreat
open Go.RowKit
variable {α : Type} {R : RecT α}

end Go.Proofs.YtkhhdpndcidmgaaGreat
/- Steps of a branching schedule: appends to a row of records. No function of the program. -/
namespace Go.Proofs.YtkhhdpndcidmgaaGreat
open Go.RowKit
variable {α : Type} {R : RecT α}

theorem owG_empty' (R : RecT α) {w : World} {A B L : List (Obj ⊕ Ext)} : OwG R (Go.Proofs.YtkhhdpndcidmgaaGreat.lay w (A ++ .inl (.cells #[] R.E (0, 0)) :: (B ++ L))) (Go.Proofs.YtkhhdpndcidmgaaGreat.lay w L).heap.size (.slice (some ⟨posn w (shp (B ++ L)), 0, none⟩) 0 0) [] :=
  owG_on (A := A) (((owG_empty R (w := w) (L := B ++ L))).le (by rw [lay_appG]; exact (lay_extends _ B).size))
end Go.Proofs.YtkhhdpndcidmgaaGreat
/- slices.Clone at rows of records: a row of the call's own that holds the same records. -/
namespace Go.Proofs.YtkhhdpndcidmgaaGreat
open Go.RowKit

def ClnPost {α : Type} (R : RecT α) (w : World) (l : List α) (e : Ending) (w' : World) : Prop := ∃ v' d, e = .returned v' ∧ w' = bw w d ∧ OwG R (bw w d) w.heap.size v' l
set_option maxHeartbeats 1000000 in
set_option maxRecDepth 100000 in
theorem cln_Star (v : Value) (l : List StarV) (w : World) (hv : SlG stR w v l) (hn : l.length ≤ 1000000000) :
    Calls Tryz.prog 53 #[v] w (ClnPost stR w l) := by
  unfold ClnPost
  by_cases hz : l = []
  · subst hz
    obtain ⟨a, c, rfl⟩ := hv.form
    cases a with
    | none =>
      refine lay_start ?_
      have qT : ∀ (w : World) (a : Option Addr) (n c : Nat), (binOp .eql 47 (.slice a n c) (.slice none 0 0)).run Tryz.prog w = .ok (.bool a.isNone) w := fun w a n c => Lib.run_eql_slice_nil w _ _ a n c 0 0 stOk.und
      go_enter Tryz.func53, Tryz.ntmps53
      go_wp2_with fail
      go_ret
      exact ⟨_, noExt _, rfl, (bw_noExt _).symm, OwG.nil _ _ _⟩
    | some a =>
      refine lay_start ?_
      have HV := Lib.hid (fun L => hv.lay L)
      have qT : ∀ (w : World) (a : Option Addr) (n c : Nat), (binOp .eql 47 (.slice a n c) (.slice none 0 0)).run Tryz.prog w = .ok (.bool a.isNone) w := fun w a n c => Lib.run_eql_slice_nil w _ _ a n c 0 0 stOk.und
      go_enter Tryz.func53, Tryz.ntmps53
      go_wp2_with (at_builtin; refine push_slG stOk rfl _ _ rfl (lay w []) _ _ _ (some a) 0 c [] (lay_belowG (A := [_]) (B := [])) (owG_empty' _ (A := []) (B := []) (L := [])) (HV.out _) (fun h => by cases h) rfl rfl (by simp) ?_; intro v' d' hv')
      obtain ⟨va, vc, hve⟩ := hv'.form
      have H' := Lib.hid hv'
      subst hve
      clear hv'
      go_wp2_with fail
      go_ret
      exact ⟨_, d', rfl, rfl, H'.out⟩
  · obtain ⟨b, o, cap, rfl, hc, hb, hr⟩ := hv.open (List.length_pos_iff.2 hz)
    have HV := Lib.hid (fun L => hv.lay L)
    have HN := Lib.hid hn
    clear hr hv hz
    refine lay_start ?_
    have qT : ∀ (w : World) (a : Option Addr) (n c : Nat), (binOp .eql 47 (.slice a n c) (.slice none 0 0)).run Tryz.prog w = .ok (.bool a.isNone) w := fun w a n c => Lib.run_eql_slice_nil w _ _ a n c 0 0 stOk.und
    go_enter Tryz.func53, Tryz.ntmps53
    go_wp2_with (at_builtin; refine push_slG stOk rfl _ _ rfl (lay w []) _ _ [] (some ⟨b, o, none⟩) l.length cap l (lay_belowG (A := [_]) (B := [])) (owG_empty' _ (A := []) (B := []) (L := [])) (HV.out _) (fun h => by cases h) rfl rfl (by simpa using HN.out) ?_; intro v' d' hv')
    obtain ⟨va, vc, hve⟩ := hv'.form
    have H' := Lib.hid hv'
    subst hve
    clear hv'
    go_wp2_with fail
    go_ret
    exact ⟨_, d', rfl, rfl, H'.out⟩
end Go.Proofs.YtkhhdpndcidmgaaGreat
/- The unwrapped hour angles: increments.angles and the reference. -/
namespace Go.Proofs.YtkhhdpndcidmgaaGreat
open Go.RowKit

def ang (g : List Int) : Nat → Int
  | 0 => 100 * nth g 0
  | k + 1 => ang g k + (100 * (nth g (k + 1) - nth g k)) % 21600000
end Go.Proofs.YtkhhdpndcidmgaaGreat
/- An append of a whole slice to a row of the call's own; slices cut (as in XPut, for a seat without audit). -/
namespace Go.Proofs.YtkhhdpndcidmgaaGreat
open Go.RowKit

end Go.Proofs.YtkhhdpndcidmgaaGreat
/- Lists of digits of 28 bits, the least one first: the plain law. No function of the program. -/
namespace Go.Proofs.YtkhhdpndcidmgaaGreat

end Go.Proofs.YtkhhdpndcidmgaaGreat
/- Digits: order, sum, difference, product, quotient, step by step. The plain law. No function of the program. -/
namespace Go.Proofs.YtkhhdpndcidmgaaGreat

end Go.Proofs.YtkhhdpndcidmgaaGreat
/- The reference's digits: Trim, Order. -/
namespace Go.Proofs.YtkhhdpndcidmgaaGreat
open Go.RowKit

end Go.Proofs.YtkhhdpndcidmgaaGreat
/- Digits: product and quotient, step by step. The plain law. No function of the program. -/
namespace Go.Proofs.YtkhhdpndcidmgaaGreat

end Go.Proofs.YtkhhdpndcidmgaaGreat
/- Medians and outliers: the plain law. No function of the program. -/
namespace Go.Proofs.YtkhhdpndcidmgaaGreat

def srtI (l : List Int) : List Int := l.mergeSort fun x y => decide (x ≤ y)
theorem srtI_len (l : List Int) : (srtI l).length = l.length := List.length_mergeSort l
theorem mem_srtI {l : List Int} {x : Int} : x ∈ srtI l ↔ x ∈ l := List.mem_mergeSort
def medI (l : List Int) : Int := nth (srtI l) ((l.length - 1) / 2)
theorem nth_lt {l : List Int} {i : Nat} (h : i < l.length) : nth l i = l[i] := by
  unfold nth; rw [List.getD_eq_getElem?_getD, List.getElem?_eq_getElem h]; rfl
theorem medI_mem {l : List Int} (h : l ≠ []) : medI l ∈ l := by
  have hl := List.length_pos_iff.2 h
  have : (l.length - 1) / 2 < (srtI l).length := by rw [srtI_len]; omega
  unfold medI
  rw [nth_lt this]
  exact mem_srtI.1 (List.getElem_mem this)
def farI (l : List Int) : List Int := l.map fun n => max (n - medI l) (-(n - medI l))
theorem farI_len (l : List Int) : (farI l).length = l.length := List.length_map _
end Go.Proofs.YtkhhdpndcidmgaaGreat
/- Insertion: the plain law. No function of the program. -/
namespace Go.Proofs.YtkhhdpndcidmgaaGreat

end Go.Proofs.YtkhhdpndcidmgaaGreat
/- The reference of average: Sorted. -/
namespace Go.Proofs.YtkhhdpndcidmgaaGreat
open Go.RowKit

end Go.Proofs.YtkhhdpndcidmgaaGreat
/- The reference of average: Lower, distance. -/
namespace Go.Proofs.YtkhhdpndcidmgaaGreat
open Go.RowKit

end Go.Proofs.YtkhhdpndcidmgaaGreat
/- The reference of average: Outliers. -/
namespace Go.Proofs.YtkhhdpndcidmgaaGreat
open Go.RowKit

theorem far_nth {l : List Int} {k : Nat} (h : k < l.length) : nth (farI l) k = max (nth l k - medI l) (-(nth l k - medI l)) := by
  rw [nth_lt (by rw [farI_len]; exact h), nth_lt h]
  simp [farI]
def Bd (l : List Int) (B : Int) : Prop := ∀ i, i < l.length → -B ≤ nth l i ∧ nth l i ≤ B
theorem Bd.mem {l : List Int} {B : Int} (h : Bd l B) : ∀ x ∈ l, -B ≤ x ∧ x ≤ B := by
  intro x hx
  obtain ⟨i, hi, rfl⟩ := List.getElem_of_mem hx
  have := h i hi
  rw [nth_lt hi] at this; exact this
theorem Bd.med {l : List Int} {B : Int} (h : Bd l B) (hl : 1 ≤ l.length) : -B ≤ medI l ∧ medI l ≤ B := h.mem _ (medI_mem (by intro e; rw [e] at hl; simp at hl))
theorem Bd.far {l : List Int} {B : Int} (h : Bd l B) (hl : 1 ≤ l.length) : Bd (farI l) (2 * B) := by
  intro i hi
  rw [farI_len] at hi
  rw [far_nth hi]
  have h1 := h.med hl
  have h2 := h i hi
  omega
end Go.Proofs.YtkhhdpndcidmgaaGreat
/- The reference's digits: Sum. -/
namespace Go.Proofs.YtkhhdpndcidmgaaGreat
open Go.RowKit

end Go.Proofs.YtkhhdpndcidmgaaGreat
/- The reference's digits: Less. -/
namespace Go.Proofs.YtkhhdpndcidmgaaGreat
open Go.RowKit

end Go.Proofs.YtkhhdpndcidmgaaGreat
/- The reference's digits: Times. -/
namespace Go.Proofs.YtkhhdpndcidmgaaGreat
open Go.RowKit

end Go.Proofs.YtkhhdpndcidmgaaGreat
/- Numbers of digits with a sign: the plain law. No function of the program. -/
namespace Go.Proofs.YtkhhdpndcidmgaaGreat

end Go.Proofs.YtkhhdpndcidmgaaGreat
/- Digits of an int, and back: the plain law. No function of the program. -/
namespace Go.Proofs.YtkhhdpndcidmgaaGreat

end Go.Proofs.YtkhhdpndcidmgaaGreat
/- The reference's limbs: Part, Unit, Drop, Pi. -/
namespace Go.Proofs.YtkhhdpndcidmgaaGreat
open Go.RowKit

end Go.Proofs.YtkhhdpndcidmgaaGreat
/- The reference's limbs: Unit, Drop, pi, Pi. -/
namespace Go.Proofs.YtkhhdpndcidmgaaGreat
open Go.RowKit

end Go.Proofs.YtkhhdpndcidmgaaGreat
/- The reference's limbs: series. -/
namespace Go.Proofs.YtkhhdpndcidmgaaGreat
open Go.RowKit

section
variable {M s t0 d0 i t : Nat} {p q : Int}
end
end Go.Proofs.YtkhhdpndcidmgaaGreat
/- The reference's digits: Over. -/
namespace Go.Proofs.YtkhhdpndcidmgaaGreat
open Go.RowKit

end Go.Proofs.YtkhhdpndcidmgaaGreat
/- The reference's numbers of digits with a sign: sign, Minus, Plus, Mul. -/
namespace Go.Proofs.YtkhhdpndcidmgaaGreat
open Go.RowKit

end Go.Proofs.YtkhhdpndcidmgaaGreat
/- The reference's numbers of digits: OfInt, Down. -/
namespace Go.Proofs.YtkhhdpndcidmgaaGreat
open Go.RowKit

end Go.Proofs.YtkhhdpndcidmgaaGreat
/- The reference's limbs: small, Near. -/
namespace Go.Proofs.YtkhhdpndcidmgaaGreat
open Go.RowKit

end Go.Proofs.YtkhhdpndcidmgaaGreat
/- The reference's numbers of digits: Down. -/
namespace Go.Proofs.YtkhhdpndcidmgaaGreat
open Go.RowKit

end Go.Proofs.YtkhhdpndcidmgaaGreat
/- The reference's numbers of digits: Compare. -/
namespace Go.Proofs.YtkhhdpndcidmgaaGreat
open Go.RowKit

end Go.Proofs.YtkhhdpndcidmgaaGreat

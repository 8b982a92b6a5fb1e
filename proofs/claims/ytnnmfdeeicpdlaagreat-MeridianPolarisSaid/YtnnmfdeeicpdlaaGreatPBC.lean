/- Contracts and plain laws, several texts in one: Sta1; Pgs; Idf; Mpb; Cal; Cal2; Pg2; Pg3; Sta2 -/
import Derived.Test.YtnnmfdeeicpdlaaGreatProg
import Derived.WalkKit
import Derived.WalkSpells
import Derived.WalkLawsBesides
import Derived.Lib.Hide
import Derived.BigQuiet
import Derived.Shelf.Abstract
import Derived.Maps.Own
import Derived.Maps.OwnOps
import Derived.Maps.Views
import Derived.Deep.RegionWith
import Derived.Test.YtnnmfdeeicpdlaaGreatPAA
import Derived.Test.YtnnmfdeeicpdlaaGreatPAO
import Derived.Test.YtnnmfdeeicpdlaaGreatPBB
/- Stars as records: lists of stars that read; slices.IndexFunc and ContainsFunc over them; a star's numbers; the index of a name; valid catalogues. -/
namespace Go.Proofs.YtnnmfdeeicpdlaaGreat
open Go.RowKit

structure StarV where
  s : ByteArray
  sha : Int
  dec : Int
  mag : Int
def stR : RecT StarV := { E := 32, S := 36, k := 4, bytes := 40, enc := fun x => [.string x.s, .int .i64 x.sha, .int .i64 x.dec, .int .i64 x.mag], wf := fun x => x.s.size ≤ 9223372036854775807 ∧ (Lit.int .i64 x.sha).wf = true ∧ (Lit.int .i64 x.dec).wf = true ∧ (Lit.int .i64 x.mag).wf = true }
theorem recInfo {E : TypeId} {k b : Nat} (h : (Tryz.prog.info? E).map (fun i => (i.zero.map (fun z => z.cells.size), i.size, i.bytes)) = some (some k, k, b)) : ∃ i z, Tryz.prog.info? E = some i ∧ i.zero = some z ∧ i.size = k ∧ i.bytes = b ∧ z.cells.size = k := by
  cases hi : Tryz.prog.info? E with
  | none => rw [hi] at h; cases h
  | some i =>
    rw [hi] at h
    simp only [Option.map_some, Option.some.injEq, Prod.mk.injEq] at h
    obtain ⟨h1, h2, h3⟩ := h
    cases hz : i.zero with
    | none => rw [hz] at h1; cases h1
    | some z =>
      rw [hz] at h1
      simp only [Option.map_some, Option.some.injEq] at h1
      exact ⟨i, z, rfl, hz, h2, h3, h1⟩
def idxR {α : Type} (p : α → Bool) : List α → Nat → Int
  | [], _ => -1
  | x :: l, k => if p x then (k : Int) else idxR p l (k + 1)
end Go.Proofs.YtnnmfdeeicpdlaaGreat
/- Tracks and pages in memory: rows of records whose cells hold slices; what lies where ('P' of the blocks). -/
namespace Go.Proofs.YtnnmfdeeicpdlaaGreat
open Go.RowKit

structure TkW where
  s : ByteArray
  ga : Option Addr
  gn : Nat
  gc : Nat
  da : Option Addr
  dn : Nat
  dc : Nat
  p : Int
  q : Int
  r : Int
def tkR : RecT TkW := { E := 182, S := 106, k := 6, bytes := 88, enc := fun x => [.string x.s, .slice x.ga x.gn x.gc, .slice x.da x.dn x.dc, .int .i64 x.p, .int .i64 x.q, .int .i64 x.r], wf := fun x => x.s.size ≤ 9223372036854775807 ∧ (Lit.int .i64 x.p).wf = true ∧ (Lit.int .i64 x.q).wf = true ∧ (Lit.int .i64 x.r).wf = true }
theorem info_tk : (Tryz.prog.info? 182).map (fun i => (i.zero.map (fun z => z.cells.size), i.size, i.bytes)) = some (some 6, 6, 88) := by kernel_rfl
theorem tkOk : RecOk tkR where
  len _ := rfl
  one x u hu := by
    simp only [tkR, List.mem_cons, List.not_mem_nil, or_false] at hu
    rcases hu with rfl | rfl | rfl | rfl | rfl | rfl <;> rfl
  pos := by decide
  und := Tryz.underlying106
  info := recInfo info_tk
  small := by decide
structure PgW where
  y : Int
  m : Int
  d : Int
  ta : Option Addr
  tn : Nat
  tc : Nat
def pgR : RecT PgW := { E := 108, S := 94, k := 4, bytes := 48, enc := fun x => [.int .i64 x.y, .int .i64 x.m, .int .i64 x.d, .slice x.ta x.tn x.tc], wf := fun x => (Lit.int .i64 x.y).wf = true ∧ (Lit.int .i64 x.m).wf = true ∧ (Lit.int .i64 x.d).wf = true }
theorem info_pg : (Tryz.prog.info? 108).map (fun i => (i.zero.map (fun z => z.cells.size), i.size, i.bytes)) = some (some 4, 4, 48) := by kernel_rfl
theorem pgOk : RecOk pgR where
  len _ := rfl
  one x u hu := by
    simp only [pgR, List.mem_cons, List.not_mem_nil, or_false] at hu
    rcases hu with rfl | rfl | rfl | rfl <;> rfl
  pos := by decide
  und := Tryz.underlying94
  info := recInfo info_pg
  small := by decide

structure PgV where
  y : Int
  m : Int
  d : Int
  ts : List TrkV
def Blk (P : Nat → Prop) (v : Value) : Prop := ∀ b o n c, v = .slice (some ⟨b, o, none⟩) n c → 0 < n → P b
def LsP (P : Nat → Prop) (w : World) (v : Value) (l : List Int) : Prop := Sl w v l ∧ Blk P v
structure TkD (P : Nat → Prop) (w : World) (x : TkW) (t : TrkV) : Prop where
  s : x.s = t.s
  g : LsP P w (.slice x.ga x.gn x.gc) t.g
  d : LsP P w (.slice x.da x.dn x.dc) t.d
  p : x.p = t.p
  q : x.q = t.q
  r : x.r = t.r
def TksD (P : Nat → Prop) (w : World) (v : Value) (l : List TrkV) : Prop :=
  ∃ ls, SlG tkR w v ls ∧ Blk P v ∧ ls.length = l.length ∧ ∀ (i : Nat) x t, ls[i]? = some x → l[i]? = some t → TkD P w x t
structure PgD (P : Nat → Prop) (w : World) (x : PgW) (p : PgV) : Prop where
  y : x.y = p.y
  m : x.m = p.m
  d : x.d = p.d
  ts : TksD P w (.slice x.ta x.tn x.tc) p.ts
def PgsD (P : Nat → Prop) (w : World) (v : Value) (l : List PgV) : Prop :=
  ∃ ls, SlG pgR w v ls ∧ Blk P v ∧ ls.length = l.length ∧ ∀ (i : Nat) x p, ls[i]? = some x → l[i]? = some p → PgD P w x p

theorem Blk.mono {P Q : Nat → Prop} {v : Value} (h : Blk P v) (hPQ : ∀ b, P b → Q b) : Blk Q v := fun b o n c e hn => hPQ b (h b o n c e hn)
theorem cell_keep {w w' : World} {b i : Nat} (h : w'.heap[b]? = w.heap[b]?) : w'.cell? ⟨b, i, none⟩ = w.cell? ⟨b, i, none⟩ := by unfold World.cell?; rw [h]
theorem LsP.keep {P : Nat → Prop} {w w' : World} {v : Value} {l : List Int} (h : LsP P w v l) (hs : w.heap.size ≤ w'.heap.size) (hk : ∀ b, P b → b < w.heap.size → w'.heap[b]? = w.heap[b]?) : LsP P w' v l := by
  refine ⟨?_, h.2⟩
  obtain ⟨a, c, rfl, h2, h3, h4⟩ := h.1
  refine ⟨a, c, rfl, h2, h3, fun hl => ?_⟩
  obtain ⟨b, o, rfl, h5, h6⟩ := h4 hl
  exact ⟨b, o, rfl, Nat.lt_of_lt_of_le h5 hs, fun i hi => (cell_keep (hk b (h.2 b o _ _ rfl (List.length_pos_iff.2 hl)) h5)).trans (h6 i hi)⟩
theorem slG_keep {α : Type} {R : RecT α} {P : Nat → Prop} {w w' : World} {v : Value} {l : List α} (h : SlG R w v l) (hb : Blk P v) (hs : w.heap.size ≤ w'.heap.size) (hk : ∀ b, P b → b < w.heap.size → w'.heap[b]? = w.heap[b]?) : SlG R w' v l := by
  obtain ⟨a, c, rfl, h2, h3, h4⟩ := h
  refine ⟨a, c, rfl, h2, h3, fun hl => ?_⟩
  obtain ⟨b, o, rfl, h5, h6⟩ := h4 hl
  exact ⟨b, o, rfl, Nat.lt_of_lt_of_le h5 hs, fun i x hx j u hu => (cell_keep (hk b (hb b o _ _ rfl (List.length_pos_iff.2 hl)) h5)).trans (h6 i x hx j u hu)⟩
theorem TkD.keep {P : Nat → Prop} {w w' : World} {x : TkW} {t : TrkV} (h : TkD P w x t) (hs : w.heap.size ≤ w'.heap.size) (hk : ∀ b, P b → b < w.heap.size → w'.heap[b]? = w.heap[b]?) : TkD P w' x t :=
  ⟨h.s, h.g.keep hs hk, h.d.keep hs hk, h.p, h.q, h.r⟩
theorem TksD.keep {P : Nat → Prop} {w w' : World} {v : Value} {l : List TrkV} (h : TksD P w v l) (hs : w.heap.size ≤ w'.heap.size) (hk : ∀ b, P b → b < w.heap.size → w'.heap[b]? = w.heap[b]?) : TksD P w' v l := by
  obtain ⟨ls, h1, h2, h3, h4⟩ := h
  exact ⟨ls, slG_keep h1 h2 hs hk, h2, h3, fun i x t hx ht => (h4 i x t hx ht).keep hs hk⟩
theorem PgD.keep {P : Nat → Prop} {w w' : World} {x : PgW} {t : PgV} (h : PgD P w x t) (hs : w.heap.size ≤ w'.heap.size) (hk : ∀ b, P b → b < w.heap.size → w'.heap[b]? = w.heap[b]?) : PgD P w' x t :=
  ⟨h.y, h.m, h.d, h.ts.keep hs hk⟩
theorem PgsD.keep {P : Nat → Prop} {w w' : World} {v : Value} {l : List PgV} (h : PgsD P w v l) (hs : w.heap.size ≤ w'.heap.size) (hk : ∀ b, P b → b < w.heap.size → w'.heap[b]? = w.heap[b]?) : PgsD P w' v l := by
  obtain ⟨ls, h1, h2, h3, h4⟩ := h
  exact ⟨ls, slG_keep h1 h2 hs hk, h2, h3, fun i x t hx ht => (h4 i x t hx ht).keep hs hk⟩
theorem LsP.mono {P Q : Nat → Prop} {w : World} {v : Value} {l : List Int} (h : LsP P w v l) (hPQ : ∀ b, P b → Q b) : LsP Q w v l := ⟨h.1, h.2.mono hPQ⟩
theorem TkD.mono {P Q : Nat → Prop} {w : World} {x : TkW} {t : TrkV} (h : TkD P w x t) (hPQ : ∀ b, P b → Q b) : TkD Q w x t := ⟨h.s, h.g.mono hPQ, h.d.mono hPQ, h.p, h.q, h.r⟩
theorem TksD.mono {P Q : Nat → Prop} {w : World} {v : Value} {l : List TrkV} (h : TksD P w v l) (hPQ : ∀ b, P b → Q b) : TksD Q w v l := by
  obtain ⟨ls, h1, h2, h3, h4⟩ := h
  exact ⟨ls, h1, h2.mono hPQ, h3, fun i x t hx ht => (h4 i x t hx ht).mono hPQ⟩
theorem PgD.mono {P Q : Nat → Prop} {w : World} {x : PgW} {t : PgV} (h : PgD P w x t) (hPQ : ∀ b, P b → Q b) : PgD Q w x t := ⟨h.y, h.m, h.d, h.ts.mono hPQ⟩
theorem PgsD.mono {P Q : Nat → Prop} {w : World} {v : Value} {l : List PgV} (h : PgsD P w v l) (hPQ : ∀ b, P b → Q b) : PgsD Q w v l := by
  obtain ⟨ls, h1, h2, h3, h4⟩ := h
  exact ⟨ls, h1, h2.mono hPQ, h3, fun i x t hx ht => (h4 i x t hx ht).mono hPQ⟩
theorem PgsD.lay {P : Nat → Prop} {w : World} {v : Value} {l : List PgV} (h : PgsD P w v l) (L : List (Obj ⊕ Ext)) : PgsD P (lay w L) v l := h.keep (lay_extends w L).size (fun b _ hb => (lay_extends w L).block b hb)
theorem TksD.lay {P : Nat → Prop} {w : World} {v : Value} {l : List TrkV} (h : TksD P w v l) (L : List (Obj ⊕ Ext)) : TksD P (lay w L) v l := h.keep (lay_extends w L).size (fun b _ hb => (lay_extends w L).block b hb)
theorem TkD.lay {P : Nat → Prop} {w : World} {x : TkW} {t : TrkV} (h : TkD P w x t) (L : List (Obj ⊕ Ext)) : TkD P (lay w L) x t := h.keep (lay_extends w L).size (fun b _ hb => (lay_extends w L).block b hb)
theorem LsP.lay {P : Nat → Prop} {w : World} {v : Value} {l : List Int} (h : LsP P w v l) (L : List (Obj ⊕ Ext)) : LsP P (lay w L) v l := h.keep (lay_extends w L).size (fun b _ hb => (lay_extends w L).block b hb)
end Go.Proofs.YtnnmfdeeicpdlaaGreat
/- slices.IndexFunc and ContainsFunc over pages and tracks, for whatever closure. -/
namespace Go.Proofs.YtnnmfdeeicpdlaaGreat
open Go.RowKit

end Go.Proofs.YtnnmfdeeicpdlaaGreat
/- A set of strings kept as a map of bools of the call's own. No function of the program. -/
namespace Go.Proofs.YtnnmfdeeicpdlaaGreat
open Go.RowKit Go.Maps

end Go.Proofs.YtnnmfdeeicpdlaaGreat
/- Dates: package calendar's numbers and the reference's. -/
namespace Go.Proofs.YtnnmfdeeicpdlaaGreat
open Go.RowKit

def leapB (y : Int) : Bool := decide (y % 4 = 0 ∧ (y % 100 ≠ 0 ∨ y % 400 = 0))
def dysI (y m : Int) : Int := if m = 2 then (if leapB y = true then 29 else 28) else if m = 4 ∨ m = 6 ∨ m = 9 ∨ m = 11 then 30 else 31
def befI (y : Int) : Int := 365 * (y - 1) + (y - 1) / 4 - (y - 1) / 100 + (y - 1) / 400
def monI (y : Int) : Nat → Int
  | 0 => 0
  | k + 1 => monI y k + dysI y ((k : Int) + 1)
def numI (y m d : Int) : Int := befI y + (d + monI y (m - 1).toNat) - 730119 - 1
def dateB (y m d : Int) : Bool := decide ((1 ≤ y ∧ y ≤ 9999) ∧ (1 ≤ m ∧ m ≤ 12) ∧ 1 ≤ d ∧ d ≤ dysI y m)
set_option maxRecDepth 100000
set_option maxRecDepth 512
end Go.Proofs.YtnnmfdeeicpdlaaGreat
/- Dates: valid ones, their numbers. -/
namespace Go.Proofs.YtnnmfdeeicpdlaaGreat
open Go.RowKit

end Go.Proofs.YtnnmfdeeicpdlaaGreat
/- Lists of numbers in a range: package page's and the reference's; valid tracks. -/
namespace Go.Proofs.YtnnmfdeeicpdlaaGreat
open Go.RowKit

def InL (l : List Int) (lo hi : Int) (k : Nat) : Prop := ∀ i, i < k → lo ≤ l.getD i 0 ∧ l.getD i 0 ≤ hi
noncomputable def inLB (l : List Int) (lo hi : Int) : Bool := @decide (InL l lo hi l.length) (Classical.propDecidable _)
noncomputable def trkB (t : TrkV) : Bool := nameB t.s && ((t.g.length : Int) == 25) && ((t.d.length : Int) == 25) && inLB t.g 0 215999 && inLB t.d (-54000) 54000 && inLB [t.p] 0 200 && inLB [t.q] 0 620 && inLB [t.r] 0 1000
end Go.Proofs.YtnnmfdeeicpdlaaGreat
/- The reference's valid tracks. -/
namespace Go.Proofs.YtnnmfdeeicpdlaaGreat
open Go.RowKit

end Go.Proofs.YtnnmfdeeicpdlaaGreat
/- Stars: their numbers, the index of a name. -/
namespace Go.Proofs.YtnnmfdeeicpdlaaGreat
open Go.RowKit Go.Shelf

def numB (a b c : Int) : Bool := decide ((0 ≤ a ∧ a ≤ 215999) ∧ (-54000 ≤ b ∧ b ≤ 54000) ∧ -20 ≤ c ∧ c ≤ 150)
def nmB (a b : ByteArray) : Bool := a.toList == b.toList
def fndS (l : List StarV) (s : ByteArray) : Int := idxR (fun x => nmB x.s s) l 0
end Go.Proofs.YtnnmfdeeicpdlaaGreat

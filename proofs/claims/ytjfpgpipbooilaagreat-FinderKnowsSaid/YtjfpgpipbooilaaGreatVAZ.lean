/- Contracts and plain laws, several texts in one: Pgs; Idf; Mpb; Cal -/
import Derived.Test.YtjfpgpipbooilaaGreatProg
import Derived.WalkKit
import Derived.WalkSpells
import Derived.WalkLawsBesides
import Derived.Lib.Hide
import Derived.BigQuiet
import Derived.Maps.Own
import Derived.Maps.OwnOps
import Derived.Maps.Views
import Derived.Test.YtjfpgpipbooilaaGreatVAA
import Derived.Test.YtjfpgpipbooilaaGreatVAB
import Derived.Test.YtjfpgpipbooilaaGreatVAX
import Derived.Test.YtjfpgpipbooilaaGreatVAY
/- Tracks and pages in memory: rows of records whose cells hold slices; what lies where ('P' of the blocks). -/
namespace Go.Proofs.YtjfpgpipbooilaaGreat
open Go.RowKit

structure TkW where
  s : ByteArray
  ga : Option Addr
  gn : Nat
  gc : Nat
  da : Option Addr
  dn : Nat
  dc : Nat
  p : Int
  q : Int
  r : Int
def tkR : RecT TkW := { E := 122, S := 110, k := 6, bytes := 88, enc := fun x => [.string x.s, .slice x.ga x.gn x.gc, .slice x.da x.dn x.dc, .int .i64 x.p, .int .i64 x.q, .int .i64 x.r], wf := fun x => x.s.size ≤ 9223372036854775807 ∧ (Lit.int .i64 x.p).wf = true ∧ (Lit.int .i64 x.q).wf = true ∧ (Lit.int .i64 x.r).wf = true }
theorem info_tk : (Tryz.prog.info? 122).map (fun i => (i.zero.map (fun z => z.cells.size), i.size, i.bytes)) = some (some 6, 6, 88) := by kernel_rfl
theorem tkOk : RecOk tkR where
  len _ := rfl
  one x u hu := by
    simp only [tkR, List.mem_cons, List.not_mem_nil, or_false] at hu
    rcases hu with rfl | rfl | rfl | rfl | rfl | rfl <;> rfl
  pos := by decide
  und := Tryz.underlying110
  info := recInfo info_tk
  small := by decide
structure PgW where
  y : Int
  m : Int
  d : Int
  ta : Option Addr
  tn : Nat
  tc : Nat
def pgR : RecT PgW := { E := 112, S := 22, k := 4, bytes := 48, enc := fun x => [.int .i64 x.y, .int .i64 x.m, .int .i64 x.d, .slice x.ta x.tn x.tc], wf := fun x => (Lit.int .i64 x.y).wf = true ∧ (Lit.int .i64 x.m).wf = true ∧ (Lit.int .i64 x.d).wf = true }
theorem info_pg : (Tryz.prog.info? 112).map (fun i => (i.zero.map (fun z => z.cells.size), i.size, i.bytes)) = some (some 4, 4, 48) := by kernel_rfl
theorem pgOk : RecOk pgR where
  len _ := rfl
  one x u hu := by
    simp only [pgR, List.mem_cons, List.not_mem_nil, or_false] at hu
    rcases hu with rfl | rfl | rfl | rfl <;> rfl
  pos := by decide
  und := Tryz.underlying22
  info := recInfo info_pg
  small := by decide

structure PgV where
  y : Int
  m : Int
  d : Int
  ts : List TrkV
def Blk (P : Nat → Prop) (v : Value) : Prop := ∀ b o n c, v = .slice (some ⟨b, o, none⟩) n c → 0 < n → P b
def LsP (P : Nat → Prop) (w : World) (v : Value) (l : List Int) : Prop := Sl w v l ∧ Blk P v
structure TkD (P : Nat → Prop) (w : World) (x : TkW) (t : TrkV) : Prop where
  s : x.s = t.s
  g : LsP P w (.slice x.ga x.gn x.gc) t.g
  d : LsP P w (.slice x.da x.dn x.dc) t.d
  p : x.p = t.p
  q : x.q = t.q
  r : x.r = t.r
def TksD (P : Nat → Prop) (w : World) (v : Value) (l : List TrkV) : Prop :=
  ∃ ls, SlG tkR w v ls ∧ Blk P v ∧ ls.length = l.length ∧ ∀ (i : Nat) x t, ls[i]? = some x → l[i]? = some t → TkD P w x t
structure PgD (P : Nat → Prop) (w : World) (x : PgW) (p : PgV) : Prop where
  y : x.y = p.y
  m : x.m = p.m
  d : x.d = p.d
  ts : TksD P w (.slice x.ta x.tn x.tc) p.ts
def PgsD (P : Nat → Prop) (w : World) (v : Value) (l : List PgV) : Prop :=
  ∃ ls, SlG pgR w v ls ∧ Blk P v ∧ ls.length = l.length ∧ ∀ (i : Nat) x p, ls[i]? = some x → l[i]? = some p → PgD P w x p

theorem Blk.mono {P Q : Nat → Prop} {v : Value} (h : Blk P v) (hPQ : ∀ b, P b → Q b) : Blk Q v := fun b o n c e hn => hPQ b (h b o n c e hn)
theorem cell_keep {w w' : World} {b i : Nat} (h : w'.heap[b]? = w.heap[b]?) : w'.cell? ⟨b, i, none⟩ = w.cell? ⟨b, i, none⟩ := by unfold World.cell?; rw [h]
theorem LsP.keep {P : Nat → Prop} {w w' : World} {v : Value} {l : List Int} (h : LsP P w v l) (hs : w.heap.size ≤ w'.heap.size) (hk : ∀ b, P b → b < w.heap.size → w'.heap[b]? = w.heap[b]?) : LsP P w' v l := by
  refine ⟨?_, h.2⟩
  obtain ⟨a, c, rfl, h2, h3, h4⟩ := h.1
  refine ⟨a, c, rfl, h2, h3, fun hl => ?_⟩
  obtain ⟨b, o, rfl, h5, h6⟩ := h4 hl
  exact ⟨b, o, rfl, Nat.lt_of_lt_of_le h5 hs, fun i hi => (cell_keep (hk b (h.2 b o _ _ rfl (List.length_pos_iff.2 hl)) h5)).trans (h6 i hi)⟩
theorem slG_keep {α : Type} {R : RecT α} {P : Nat → Prop} {w w' : World} {v : Value} {l : List α} (h : SlG R w v l) (hb : Blk P v) (hs : w.heap.size ≤ w'.heap.size) (hk : ∀ b, P b → b < w.heap.size → w'.heap[b]? = w.heap[b]?) : SlG R w' v l := by
  obtain ⟨a, c, rfl, h2, h3, h4⟩ := h
  refine ⟨a, c, rfl, h2, h3, fun hl => ?_⟩
  obtain ⟨b, o, rfl, h5, h6⟩ := h4 hl
  exact ⟨b, o, rfl, Nat.lt_of_lt_of_le h5 hs, fun i x hx j u hu => (cell_keep (hk b (hb b o _ _ rfl (List.length_pos_iff.2 hl)) h5)).trans (h6 i x hx j u hu)⟩
theorem TkD.keep {P : Nat → Prop} {w w' : World} {x : TkW} {t : TrkV} (h : TkD P w x t) (hs : w.heap.size ≤ w'.heap.size) (hk : ∀ b, P b → b < w.heap.size → w'.heap[b]? = w.heap[b]?) : TkD P w' x t :=
  ⟨h.s, h.g.keep hs hk, h.d.keep hs hk, h.p, h.q, h.r⟩
theorem TksD.keep {P : Nat → Prop} {w w' : World} {v : Value} {l : List TrkV} (h : TksD P w v l) (hs : w.heap.size ≤ w'.heap.size) (hk : ∀ b, P b → b < w.heap.size → w'.heap[b]? = w.heap[b]?) : TksD P w' v l := by
  obtain ⟨ls, h1, h2, h3, h4⟩ := h
  exact ⟨ls, slG_keep h1 h2 hs hk, h2, h3, fun i x t hx ht => (h4 i x t hx ht).keep hs hk⟩
theorem PgD.keep {P : Nat → Prop} {w w' : World} {x : PgW} {t : PgV} (h : PgD P w x t) (hs : w.heap.size ≤ w'.heap.size) (hk : ∀ b, P b → b < w.heap.size → w'.heap[b]? = w.heap[b]?) : PgD P w' x t :=
  ⟨h.y, h.m, h.d, h.ts.keep hs hk⟩
theorem PgsD.keep {P : Nat → Prop} {w w' : World} {v : Value} {l : List PgV} (h : PgsD P w v l) (hs : w.heap.size ≤ w'.heap.size) (hk : ∀ b, P b → b < w.heap.size → w'.heap[b]? = w.heap[b]?) : PgsD P w' v l := by
  obtain ⟨ls, h1, h2, h3, h4⟩ := h
  exact ⟨ls, slG_keep h1 h2 hs hk, h2, h3, fun i x t hx ht => (h4 i x t hx ht).keep hs hk⟩
theorem LsP.mono {P Q : Nat → Prop} {w : World} {v : Value} {l : List Int} (h : LsP P w v l) (hPQ : ∀ b, P b → Q b) : LsP Q w v l := ⟨h.1, h.2.mono hPQ⟩
theorem TkD.mono {P Q : Nat → Prop} {w : World} {x : TkW} {t : TrkV} (h : TkD P w x t) (hPQ : ∀ b, P b → Q b) : TkD Q w x t := ⟨h.s, h.g.mono hPQ, h.d.mono hPQ, h.p, h.q, h.r⟩
theorem TksD.mono {P Q : Nat → Prop} {w : World} {v : Value} {l : List TrkV} (h : TksD P w v l) (hPQ : ∀ b, P b → Q b) : TksD Q w v l := by
  obtain ⟨ls, h1, h2, h3, h4⟩ := h
  exact ⟨ls, h1, h2.mono hPQ, h3, fun i x t hx ht => (h4 i x t hx ht).mono hPQ⟩
theorem PgD.mono {P Q : Nat → Prop} {w : World} {x : PgW} {t : PgV} (h : PgD P w x t) (hPQ : ∀ b, P b → Q b) : PgD Q w x t := ⟨h.y, h.m, h.d, h.ts.mono hPQ⟩
theorem PgsD.mono {P Q : Nat → Prop} {w : World} {v : Value} {l : List PgV} (h : PgsD P w v l) (hPQ : ∀ b, P b → Q b) : PgsD Q w v l := by
  obtain ⟨ls, h1, h2, h3, h4⟩ := h
  exact ⟨ls, h1, h2.mono hPQ, h3, fun i x t hx ht => (h4 i x t hx ht).mono hPQ⟩
theorem PgsD.lay {P : Nat → Prop} {w : World} {v : Value} {l : List PgV} (h : PgsD P w v l) (L : List (Obj ⊕ Ext)) : PgsD P (lay w L) v l := h.keep (lay_extends w L).size (fun b _ hb => (lay_extends w L).block b hb)
theorem TksD.lay {P : Nat → Prop} {w : World} {v : Value} {l : List TrkV} (h : TksD P w v l) (L : List (Obj ⊕ Ext)) : TksD P (lay w L) v l := h.keep (lay_extends w L).size (fun b _ hb => (lay_extends w L).block b hb)
theorem TkD.lay {P : Nat → Prop} {w : World} {x : TkW} {t : TrkV} (h : TkD P w x t) (L : List (Obj ⊕ Ext)) : TkD P (lay w L) x t := h.keep (lay_extends w L).size (fun b _ hb => (lay_extends w L).block b hb)
theorem LsP.lay {P : Nat → Prop} {w : World} {v : Value} {l : List Int} (h : LsP P w v l) (L : List (Obj ⊕ Ext)) : LsP P (lay w L) v l := h.keep (lay_extends w L).size (fun b _ hb => (lay_extends w L).block b hb)
theorem Sl.lst {w : World} {v : Value} {l : List Int} (h : Sl w v l) : Lst w v l := by
  obtain ⟨a, c, h1, h2, h3, h4⟩ := h
  exact ⟨a, c, h1, Nat.le_trans h2.1 h2.2, h3, h4⟩
theorem TkD.trk {P : Nat → Prop} {w : World} {x : TkW} {t : TrkV} (h : TkD P w x t) (hw : tkR.wf x) : Trk w (.agg (tkR.enc x).toArray) t := by
  obtain ⟨xs, ga, gn, gc, da, dn, dc, p, q, r⟩ := x
  obtain ⟨h1, h2, h3, h4, h5, h6⟩ := h
  obtain ⟨w1, w2, w3, w4⟩ := hw
  dsimp only at h1 h2 h3 h4 h5 h6 w1 w2 w3 w4
  subst h1 h4 h5 h6
  exact ⟨_, _, rfl, w1, h2.1.lst, h3.1.lst, w2, w3, w4⟩
end Go.Proofs.YtjfpgpipbooilaaGreat
/- slices.IndexFunc and ContainsFunc over pages and tracks, for whatever closure. -/
namespace Go.Proofs.YtjfpgpipbooilaaGreat
set_option maxHeartbeats 1000000
open Go.RowKit

theorem pg_IndexFunc (g : FuncId) (lb : List Value) (p : PgW → Bool) (v : Value) (l : List PgW) (w : World) (hv : SlG pgR w v l)
    (eI : ∀ args w, (callFunc g args).run Tryz.prog w = .ok (.enter g args) w)
    (hf : ∀ x ∈ l, ∀ d, Calls Tryz.prog g (.agg (pgR.enc x).toArray :: lb).toArray (bw w d) fun e w' => e = .returned (.bool (p x)) ∧ ∃ d, w' = bw w d) :
    Calls Tryz.prog 101 #[v, .func (.func g) #[] lb.toArray] w (IdxPost w (idxR p l 0)) := by
  by_cases hz : l = []
  · subst hz
    obtain ⟨a, cap, rfl⟩ := hv.form
    clear hf
    refine lay_start ?_
    go_enter Tryz.func101, Tryz.ntmps101
    go_wp2_with fail
    refine wp_loop_rounds 1 ?_
    rw [rounds_succ]
    go_wp2
    go_ret
    exact ⟨rfl, lay_ex _ _⟩
  · obtain ⟨b, o, cap, rfl, hc, hb, hr⟩ := hv.open (List.length_pos_iff.2 hz)
    obtain ⟨m, hm⟩ : ∃ m, l.length = m := ⟨_, rfl⟩
    have HF := Lib.hid hf
    have HM := Lib.hid hm
    rw [hm] at hc ⊢
    have HR : Hid (∀ i x, l[i]? = some x → w.cell? ⟨b, o + i * 4, none⟩ = some (.int .i64 x.y) ∧ w.cell? ⟨b, o + i * 4 + 1, none⟩ = some (.int .i64 x.m) ∧ w.cell? ⟨b, o + i * 4 + 2, none⟩ = some (.int .i64 x.d) ∧ w.cell? ⟨b, o + i * 4 + 3, none⟩ = some (.slice x.ta x.tn x.tc)) :=
      Lib.hid (fun i x hx => ⟨hr i x hx 0 _ rfl, hr i x hx 1 _ rfl, hr i x hx 2 _ rfl, hr i x hx 3 _ rfl⟩)
    clear hf hz hm hr hv
    refine lay_start ?_
    go_enter Tryz.func101, Tryz.ntmps101
    go_wp2_with fail
    go_loopw [8] (fun i wr => ∃ (k : Nat) (d : Ext), k ≤ m ∧ i = .int .i64 k ∧ wr = lay w [.inr d] ∧ idxR p l 0 = idxR p (l.drop k) k) (fun i _ => m - (intOf i).toNat)
    case atStart => exact ⟨0, noExt _, Nat.zero_le _, rfl, (bw_noExt _).symm, rfl⟩
    case round =>
      obtain ⟨k, d, hk, rfl, rfl, hA⟩ := hrel
      have HA := Lib.hid hA
      clear hA
      by_cases hlt : k < m
      · obtain ⟨x, hx⟩ : ∃ x, l[k]? = some x := ⟨_, List.getElem?_eq_getElem (by rw [HM.out]; exact hlt)⟩
        obtain ⟨e0, e1, e2, e3⟩ := HR.out k x hx
        have H1 : Hid (Calls Tryz.prog g (.agg #[.int .i64 x.y, .int .i64 x.m, .int .i64 x.d, .slice x.ta x.tn x.tc] :: lb).toArray (lay w [.inr d]) fun e w' => e = .returned (.bool (p x)) ∧ ∃ d, w' = bw w d) := Lib.hid (HF.out x (List.mem_of_getElem? hx) d)
        cases ho : p x
        · have HN := Lib.hid (idxR_miss hx ho HA.out)
          rw [ho] at H1
          clear ho hx
          obtain ⟨y0, y1, y2, y3, y4, y5⟩ := x
          dsimp only at e0 e1 e2 e3 H1
          go_wp2_with (refine H1.out.mono ?_; rintro e w' ⟨rfl, d1, rfl⟩)
          go_roundw
          case rel => exact ⟨k + 1, d1, by omega, by go_num, rfl, HN.out⟩
          case measure => simp [intOf]; omega
        · have HN := Lib.hid (idxR_got hx ho HA.out)
          rw [ho] at H1
          clear ho hx
          obtain ⟨y0, y1, y2, y3, y4, y5⟩ := x
          dsimp only at e0 e1 e2 e3 H1
          go_wp2_with (refine H1.out.mono ?_; rintro e w' ⟨rfl, d1, rfl⟩)
          go_ret
          exact ⟨ret_int HN.out, d1, rfl⟩
      · have HN := Lib.hid (idxR_end (k := k) (by rw [HM.out]; omega) HA.out)
        go_wp2
        go_ret
        exact ⟨ret_int HN.out, lay_ex _ _⟩
theorem pg_ContainsFunc (g : FuncId) (lb : List Value) (p : PgW → Bool) (v : Value) (l : List PgW) (w : World) (hv : SlG pgR w v l)
    (eI : ∀ args w, (callFunc g args).run Tryz.prog w = .ok (.enter g args) w)
    (hf : ∀ x ∈ l, ∀ d, Calls Tryz.prog g (.agg (pgR.enc x).toArray :: lb).toArray (bw w d) fun e w' => e = .returned (.bool (p x)) ∧ ∃ d, w' = bw w d) :
    Calls Tryz.prog 54 #[v, .func (.func g) #[] lb.toArray] w fun e w' => e = .returned (.bool (l.any p)) ∧ ∃ d, w' = bw w d := by
  have H := Lib.hid (pg_IndexFunc g lb p v l w hv eI hf)
  have HS := Lib.hid (idxR_any p l 0)
  generalize idxR p l 0 = x at *
  generalize l.any p = y at *
  clear hf eI hv
  refine lay_start ?_
  go_enter Tryz.func54, Tryz.ntmps54
  go_wp2_with (go_at_call 101; refine H.out.mono ?_; rintro e w' ⟨rfl, d, rfl⟩)
  go_ret
  exact ⟨ret_bool HS.out, _, rfl⟩
theorem tk_IndexFunc (g : FuncId) (lb : List Value) (p : TkW → Bool) (v : Value) (l : List TkW) (w : World) (hv : SlG tkR w v l)
    (eI : ∀ args w, (callFunc g args).run Tryz.prog w = .ok (.enter g args) w)
    (hf : ∀ x ∈ l, ∀ d, Calls Tryz.prog g (.agg (tkR.enc x).toArray :: lb).toArray (bw w d) fun e w' => e = .returned (.bool (p x)) ∧ ∃ d, w' = bw w d) :
    Calls Tryz.prog 111 #[v, .func (.func g) #[] lb.toArray] w (IdxPost w (idxR p l 0)) := by
  by_cases hz : l = []
  · subst hz
    obtain ⟨a, cap, rfl⟩ := hv.form
    clear hf
    refine lay_start ?_
    go_enter Tryz.func111, Tryz.ntmps111
    go_wp2_with fail
    refine wp_loop_rounds 1 ?_
    rw [rounds_succ]
    go_wp2
    go_ret
    exact ⟨rfl, lay_ex _ _⟩
  · obtain ⟨b, o, cap, rfl, hc, hb, hr⟩ := hv.open (List.length_pos_iff.2 hz)
    obtain ⟨m, hm⟩ : ∃ m, l.length = m := ⟨_, rfl⟩
    have HF := Lib.hid hf
    have HM := Lib.hid hm
    rw [hm] at hc ⊢
    have HR : Hid (∀ i x, l[i]? = some x → w.cell? ⟨b, o + i * 6, none⟩ = some (.string x.s) ∧ w.cell? ⟨b, o + i * 6 + 1, none⟩ = some (.slice x.ga x.gn x.gc) ∧ w.cell? ⟨b, o + i * 6 + 2, none⟩ = some (.slice x.da x.dn x.dc) ∧ w.cell? ⟨b, o + i * 6 + 3, none⟩ = some (.int .i64 x.p) ∧ w.cell? ⟨b, o + i * 6 + 4, none⟩ = some (.int .i64 x.q) ∧ w.cell? ⟨b, o + i * 6 + 5, none⟩ = some (.int .i64 x.r)) :=
      Lib.hid (fun i x hx => ⟨hr i x hx 0 _ rfl, hr i x hx 1 _ rfl, hr i x hx 2 _ rfl, hr i x hx 3 _ rfl, hr i x hx 4 _ rfl, hr i x hx 5 _ rfl⟩)
    clear hf hz hm hr hv
    refine lay_start ?_
    go_enter Tryz.func111, Tryz.ntmps111
    go_wp2_with fail
    go_loopw [8] (fun i wr => ∃ (k : Nat) (d : Ext), k ≤ m ∧ i = .int .i64 k ∧ wr = lay w [.inr d] ∧ idxR p l 0 = idxR p (l.drop k) k) (fun i _ => m - (intOf i).toNat)
    case atStart => exact ⟨0, noExt _, Nat.zero_le _, rfl, (bw_noExt _).symm, rfl⟩
    case round =>
      obtain ⟨k, d, hk, rfl, rfl, hA⟩ := hrel
      have HA := Lib.hid hA
      clear hA
      by_cases hlt : k < m
      · obtain ⟨x, hx⟩ : ∃ x, l[k]? = some x := ⟨_, List.getElem?_eq_getElem (by rw [HM.out]; exact hlt)⟩
        obtain ⟨e0, e1, e2, e3, e4, e5⟩ := HR.out k x hx
        have H1 : Hid (Calls Tryz.prog g (.agg #[.string x.s, .slice x.ga x.gn x.gc, .slice x.da x.dn x.dc, .int .i64 x.p, .int .i64 x.q, .int .i64 x.r] :: lb).toArray (lay w [.inr d]) fun e w' => e = .returned (.bool (p x)) ∧ ∃ d, w' = bw w d) := Lib.hid (HF.out x (List.mem_of_getElem? hx) d)
        cases ho : p x
        · have HN := Lib.hid (idxR_miss hx ho HA.out)
          rw [ho] at H1
          clear ho hx
          obtain ⟨y0, y1, y2, y3, y4, y5, y6, y7, y8, y9⟩ := x
          dsimp only at e0 e1 e2 e3 e4 e5 H1
          go_wp2_with (refine H1.out.mono ?_; rintro e w' ⟨rfl, d1, rfl⟩)
          go_roundw
          case rel => exact ⟨k + 1, d1, by omega, by go_num, rfl, HN.out⟩
          case measure => simp [intOf]; omega
        · have HN := Lib.hid (idxR_got hx ho HA.out)
          rw [ho] at H1
          clear ho hx
          obtain ⟨y0, y1, y2, y3, y4, y5, y6, y7, y8, y9⟩ := x
          dsimp only at e0 e1 e2 e3 e4 e5 H1
          go_wp2_with (refine H1.out.mono ?_; rintro e w' ⟨rfl, d1, rfl⟩)
          go_ret
          exact ⟨ret_int HN.out, d1, rfl⟩
      · have HN := Lib.hid (idxR_end (k := k) (by rw [HM.out]; omega) HA.out)
        go_wp2
        go_ret
        exact ⟨ret_int HN.out, lay_ex _ _⟩
theorem tk_ContainsFunc (g : FuncId) (lb : List Value) (p : TkW → Bool) (v : Value) (l : List TkW) (w : World) (hv : SlG tkR w v l)
    (eI : ∀ args w, (callFunc g args).run Tryz.prog w = .ok (.enter g args) w)
    (hf : ∀ x ∈ l, ∀ d, Calls Tryz.prog g (.agg (tkR.enc x).toArray :: lb).toArray (bw w d) fun e w' => e = .returned (.bool (p x)) ∧ ∃ d, w' = bw w d) :
    Calls Tryz.prog 64 #[v, .func (.func g) #[] lb.toArray] w fun e w' => e = .returned (.bool (l.any p)) ∧ ∃ d, w' = bw w d := by
  have H := Lib.hid (tk_IndexFunc g lb p v l w hv eI hf)
  have HS := Lib.hid (idxR_any p l 0)
  generalize idxR p l 0 = x at *
  generalize l.any p = y at *
  clear hf eI hv
  refine lay_start ?_
  go_enter Tryz.func64, Tryz.ntmps64
  go_wp2_with (go_at_call 111; refine H.out.mono ?_; rintro e w' ⟨rfl, d, rfl⟩)
  go_ret
  exact ⟨ret_bool HS.out, _, rfl⟩
end Go.Proofs.YtjfpgpipbooilaaGreat
/- A set of strings kept as a map of bools of the call's own. No function of the program. -/
namespace Go.Proofs.YtjfpgpipbooilaaGreat
open Go.RowKit Go.Maps

theorem atKey_fold {H : Type} (u z : DataW H) (k : Lit) : ∀ (acc : List Lit) (m : DataW H), IsMap m → (∀ x ∈ acc, WideAt.IsKeyLit x) →
    (acc.foldl (fun m x => m.put x u) m).atKey k z = if acc.any (fun x => x.sameKey k) = true then u else m.atKey k z
  | [], m, _, _ => rfl
  | x :: acc, m, hm, hk => by
    rw [List.foldl_cons, atKey_fold u z k acc (m.put x u) (hm.put x u) (fun y hy => hk y (List.mem_cons_of_mem _ hy)), List.any_cons]
    have hx := hk x (List.mem_cons_self ..)
    by_cases h : x = k
    · subst h
      rw [WideAt.sameKey_self hx, Bool.true_or, atKey_put_same hm hx]
      split <;> rfl
    · have h' : k ≠ x := fun e => h e.symm
      rw [sameKey_ne h, Bool.false_or, atKey_put_other h']
theorem atKey_setOf {H : Type} (u z : DataW H) (k : Lit) (acc : List Lit) (hk : ∀ x ∈ acc, WideAt.IsKeyLit x) (hz : (DataW.map [] : DataW H).atKey k z = z) : (setOf u acc).atKey k z = if acc.any (fun x => x.sameKey k) = true then u else z := by
  unfold setOf
  rw [atKey_fold u z k acc _ isMap_empty hk, hz]
def keyS (s : ByteArray) : Lit := .string s.data.toList
def setS (l : List ByteArray) : DataW Unit := setOf (.lit (.bool true)) (l.map keyS)
theorem keyS_lit (l : List ByteArray) : ∀ x ∈ l.map keyS, WideAt.IsKeyLit x := fun x hx => by
  obtain ⟨s, _, rfl⟩ := List.mem_map.1 hx
  trivial
theorem setS_snoc (l : List ByteArray) (s : ByteArray) : setS (l ++ [s]) = (setS l).put (keyS s) (.lit (.bool true)) := by
  unfold setS
  rw [List.map_append]
  exact setOf_snoc _ _ _
theorem key_same (a b : ByteArray) : (keyS a).sameKey (keyS b) = (a.toList == b.toList) := by
  rw [ByteArray.toList_eq, ByteArray.toList_eq]
  by_cases h : a.data.toList = b.data.toList
  · rw [h, beq_self_eq_true]
    unfold keyS
    rw [h]
    exact WideAt.sameKey_self trivial
  · rw [beq_eq_false_iff_ne.2 h]
    exact sameKey_ne (fun e => h (by unfold keyS at e; injection e))
theorem setS_at (l : List ByteArray) (s : ByteArray) : (setS l).atKey (keyS s) (.lit (.bool false)) = .lit (.bool (l.any fun x => x.toList == s.toList)) := by
  unfold setS
  rw [atKey_setOf _ _ _ _ (keyS_lit l) rfl, List.any_map]
  have : ((fun x => Lit.sameKey x (keyS s)) ∘ keyS) = fun x : ByteArray => x.toList == s.toList := funext fun x => key_same x s
  rw [this]
  cases l.any fun x => x.toList == s.toList <;> rfl
set_option maxRecDepth 100000 in
theorem zero_bool (w : World) : (zeroValue 4).run Tryz.prog w = .ok (.bool false) w := by kernel_rfl
theorem plain_bool_inv {v : Value} {x : Bool} {ps : List MemPlace} (h : plainElem (H := Unit) Tryz.prog 4 v = some (.lit (.bool x), ps)) : v = .bool x := by
  unfold plainElem at h
  have hu := Tryz.underlying4
  generalize Tryz.prog.underlying 4 = U at *
  subst hu
  cases v <;> simp_all
def OwnS (w : World) (b : Nat) (l : List ByteArray) : Prop := w.ownsMap Tryz.prog 9 (plainElem (H := Unit) Tryz.prog 4) b l.length (setS l)
theorem ownS_new (w : World) : OwnS (w.alloc (.map #[] 0)) w.heap.size [] := World.ownsMap_made _ _ _ _
theorem ownS_on {w : World} {b : Nat} {l : List ByteArray} {A B : List (Obj ⊕ Ext)} (h : OwnS (lay w B) b l) : OwnS (lay w (A ++ B)) b l := by
  have hb := lay_belowG (w := w) (A := A) (B := B)
  exact World.ownsMap.kept (row := none) h ⟨hb.1, hb.2, hb.3, hb.size, fun k hk _ => hb.block k hk⟩ (by simp)
theorem law_str : Keyed Tryz.prog 9 := string_keyed Tryz.underlying9
theorem ownS_look {w : World} {b : Nat} {l : List ByteArray} (h : OwnS w b l) (s : ByteArray) (hs : s.size ≤ maxLen) : (Instr.lookup 147 (.map (some b)) (.string s) false).run Tryz.prog w = .ok (.bool (l.any fun x => x.toList == s.toList)) w := by
  obtain ⟨v, ps, hr, hv⟩ := World.ownsMap.lookup h law_str Tryz.underlying147 (zero_bool w) (plainElem_bool Tryz.underlying4 false) (WideMaps.keyOf_string_mk Tryz.underlying9 hs)
  rw [show (Lit.string s.data.toList) = keyS s from rfl, setS_at] at hv
  rw [hr, plain_bool_inv hv]
theorem put_name {ops : Array Oper} {rest : List Oper} {o : Oper} {a : Act} {Q : Exit → Act → World → Prop} (hg : o.guard = none) (m x v : Operand) (hop : o.op = Op.mapUpdate 147 m x v)
    (W0 w : World) (b : Nat) (l : List ByteArray) (s : ByteArray) (hw : Below W0.heap.size W0 w) (hb : W0.heap.size ≤ b) (hm : a.eval m = .map (some b)) (hx : a.eval x = .string s) (hv : a.eval v = .bool true)
    (hown : OwnS w b l) (hs : s.size ≤ maxLen) (hl : l.length ≤ 1000)
    (h : ∀ d, OwnS (Go.Proofs.YtjfpgpipbooilaaGreat.bw W0 d) b (l ++ [s]) → wpList Tryz.prog ops Q rest (a.put o.dst undef) (Go.Proofs.YtjfpgpipbooilaaGreat.bw W0 d)) :
    wpList Tryz.prog ops Q (o :: rest) a w := by
  refine wpList_mapUpdate_own w hg m x v 147 hop 9 4 law_str Tryz.underlying147 _ b l.length (setS l) hm hown (by unfold maxLen; omega) (.string s) (.bool true) (keyS s) hx hv (WideMaps.keyOf_string_mk Tryz.underlying9 hs) _ [] (plainElem_bool Tryz.underlying4 true) ?_
  intro w' h1 h2
  obtain ⟨d, rfl⟩ := bw_of (w := W0) (w' := w') (hw.grown h2 hw.size (fun k hk => by cases hk; exact hb))
  refine h d ?_
  unfold OwnS
  rw [setS_snoc, List.length_append]
  exact h1
end Go.Proofs.YtjfpgpipbooilaaGreat
/- Dates: package calendar's numbers and the reference's. -/
namespace Go.Proofs.YtjfpgpipbooilaaGreat
set_option maxHeartbeats 1000000
set_option maxRecDepth 100000
open Go.RowKit

def leapB (y : Int) : Bool := decide (y % 4 = 0 ∧ (y % 100 ≠ 0 ∨ y % 400 = 0))
def dysI (y m : Int) : Int := if m = 2 then (if leapB y = true then 29 else 28) else if m = 4 ∨ m = 6 ∨ m = 9 ∨ m = 11 then 30 else 31
theorem dysI_bd (y m : Int) : 28 ≤ dysI y m ∧ dysI y m ≤ 31 := by unfold dysI; split <;> (try split) <;> omega
def befI (y : Int) : Int := 365 * (y - 1) + (y - 1) / 4 - (y - 1) / 100 + (y - 1) / 400
theorem befI_bd {y : Int} (h0 : 1 ≤ y) (h1 : y ≤ 9999) : 0 ≤ befI y ∧ befI y ≤ 4000000 := by unfold befI; omega
def monI (y : Int) : Nat → Int
  | 0 => 0
  | k + 1 => monI y k + dysI y ((k : Int) + 1)
theorem monI_bd (y : Int) : ∀ k : Nat, 0 ≤ monI y k ∧ monI y k ≤ 31 * (k : Int)
  | 0 => by simp [monI]
  | k + 1 => by
    have := monI_bd y k
    have := dysI_bd y ((k : Int) + 1)
    simp only [monI]; omega
def numI (y m d : Int) : Int := befI y + (d + monI y (m - 1).toNat) - 730119 - 1
def dateB (y m d : Int) : Bool := decide ((1 ≤ y ∧ y ≤ 9999) ∧ (1 ≤ m ∧ m ≤ 12) ∧ 1 ≤ d ∧ d ≤ dysI y m)
theorem dateB_iff {y m d : Int} : dateB y m d = true ↔ (1 ≤ y ∧ y ≤ 9999) ∧ (1 ≤ m ∧ m ≤ 12) ∧ 1 ≤ d ∧ d ≤ dysI y m := by simp [dateB]
theorem bef2000 : befI 2000 = 730119 := by decide
theorem tm_eq {y c : Int} (h : 0 ≤ y) : y.tmod c = y % c := Int.tmod_eq_emod_of_nonneg h
theorem td_eq {y c : Int} (h : 0 ≤ y) : y.tdiv c = y / c := Int.tdiv_eq_ediv_of_nonneg h
theorem leap_ways {y : Int} : (leapB y = true ∧ y % 4 = 0 ∧ (y % 100 != 0) = true ∧ (y % 100 == 0) = false) ∨ (leapB y = true ∧ y % 4 = 0 ∧ y % 100 = 0 ∧ y % 400 = 0) ∨
    (leapB y = false ∧ y % 4 = 0 ∧ y % 100 = 0 ∧ (y % 400 == 0) = false) ∨ (leapB y = false ∧ (y % 4 == 0) = false ∧ (y % 400 == 0) = false) := by
  unfold leapB
  simp only [decide_eq_true_eq, decide_eq_false_iff_not, beq_eq_false_iff_ne, bne_iff_ne, ne_eq]
  omega
theorem cal_Leap (y : Int) (w : World) (h0 : 0 ≤ y) :
    Calls Tryz.prog 187 #[.int .i64 y] w fun e w' => e = .returned (.bool (leapB y)) ∧ w' = w := by
  obtain ⟨A, eA⟩ : ∃ A, y % 4 = A := ⟨_, rfl⟩
  obtain ⟨B, eB⟩ : ∃ B, y % 100 = B := ⟨_, rfl⟩
  obtain ⟨C, eC⟩ : ∃ C, y % 400 = C := ⟨_, rfl⟩
  have e1 : y.tmod 4 = A := (tm_eq h0).trans eA
  have e2 : y.tmod 100 = B := (tm_eq h0).trans eB
  have e3 : y.tmod 400 = C := (tm_eq h0).trans eC
  have hw := leap_ways (y := y)
  rw [eA, eB, eC] at hw
  clear eA eB eC h0
  rcases hw with ⟨h, rfl, b2, b⟩ | ⟨h, rfl, rfl, rfl⟩ | ⟨h, rfl, rfl, c⟩ | ⟨h, a, c⟩
  all_goals
    rw [h]
    clear h
    go_enter Tryz.func187, Tryz.ntmps187
    go_wp2_with fail
    go_ret
    exact ⟨rfl, rfl⟩
theorem ref09_Leap (y : Int) (w : World) (h0 : 0 ≤ y) :
    Calls Tryz.prog 189 #[.int .i64 y] w fun e w' => e = .returned (.bool (leapB y)) ∧ w' = w := by
  obtain ⟨A, eA⟩ : ∃ A, y % 4 = A := ⟨_, rfl⟩
  obtain ⟨B, eB⟩ : ∃ B, y % 100 = B := ⟨_, rfl⟩
  obtain ⟨C, eC⟩ : ∃ C, y % 400 = C := ⟨_, rfl⟩
  have e1 : y.tmod 4 = A := (tm_eq h0).trans eA
  have e2 : y.tmod 100 = B := (tm_eq h0).trans eB
  have e3 : y.tmod 400 = C := (tm_eq h0).trans eC
  have hw := leap_ways (y := y)
  rw [eA, eB, eC] at hw
  clear eA eB eC h0
  rcases hw with ⟨h, rfl, b2, b⟩ | ⟨h, rfl, rfl, rfl⟩ | ⟨h, rfl, rfl, c⟩ | ⟨h, a, c⟩
  all_goals
    rw [h]
    clear h
    go_enter Tryz.func189, Tryz.ntmps189
    go_wp2_with fail
    go_ret
    exact ⟨rfl, rfl⟩
def lenA : Array Value := #[.int .i64 31, .int .i64 28, .int .i64 31, .int .i64 30, .int .i64 31, .int .i64 30, .int .i64 31, .int .i64 31, .int .i64 30, .int .i64 31, .int .i64 30, .int .i64 31]
set_option maxRecDepth 100000
theorem ix_0 (w : World) : (Instr.index 209 (.agg lenA) (.int .i64 0)).run Tryz.prog w = .ok (.int .i64 31) w := by kernel_rfl
theorem ix_1 (w : World) : (Instr.index 209 (.agg lenA) (.int .i64 1)).run Tryz.prog w = .ok (.int .i64 28) w := by kernel_rfl
theorem ix_2 (w : World) : (Instr.index 209 (.agg lenA) (.int .i64 2)).run Tryz.prog w = .ok (.int .i64 31) w := by kernel_rfl
theorem ix_3 (w : World) : (Instr.index 209 (.agg lenA) (.int .i64 3)).run Tryz.prog w = .ok (.int .i64 30) w := by kernel_rfl
theorem ix_4 (w : World) : (Instr.index 209 (.agg lenA) (.int .i64 4)).run Tryz.prog w = .ok (.int .i64 31) w := by kernel_rfl
theorem ix_5 (w : World) : (Instr.index 209 (.agg lenA) (.int .i64 5)).run Tryz.prog w = .ok (.int .i64 30) w := by kernel_rfl
theorem ix_6 (w : World) : (Instr.index 209 (.agg lenA) (.int .i64 6)).run Tryz.prog w = .ok (.int .i64 31) w := by kernel_rfl
theorem ix_7 (w : World) : (Instr.index 209 (.agg lenA) (.int .i64 7)).run Tryz.prog w = .ok (.int .i64 31) w := by kernel_rfl
theorem ix_8 (w : World) : (Instr.index 209 (.agg lenA) (.int .i64 8)).run Tryz.prog w = .ok (.int .i64 30) w := by kernel_rfl
theorem ix_9 (w : World) : (Instr.index 209 (.agg lenA) (.int .i64 9)).run Tryz.prog w = .ok (.int .i64 31) w := by kernel_rfl
theorem ix_10 (w : World) : (Instr.index 209 (.agg lenA) (.int .i64 10)).run Tryz.prog w = .ok (.int .i64 30) w := by kernel_rfl
theorem ix_11 (w : World) : (Instr.index 209 (.agg lenA) (.int .i64 11)).run Tryz.prog w = .ok (.int .i64 31) w := by kernel_rfl
set_option maxRecDepth 512
theorem cal_lengths (w : World) :
    Calls Tryz.prog 188 #[] w fun e w' => e = .returned (.agg lenA) ∧ ∃ d, w' = bw w d := by
  refine lay_start ?_
  unfold lenA
  go_enter Tryz.func188, Tryz.ntmps188
  go_wp2
  exact bodyPost_ret (v := .agg #[.int .i64 31, .int .i64 28, .int .i64 31, .int .i64 30, .int .i64 31, .int .i64 30, .int .i64 31, .int .i64 31, .int .i64 30, .int .i64 31, .int .i64 30, .int .i64 31]) (by simp [results, Tryz.results188, go_sem]) rfl ⟨rfl, lay_ex _ _⟩
theorem mon12 {m : Int} (h0 : 1 ≤ m) (h1 : m ≤ 12) : m = 1 ∨ m = 2 ∨ m = 3 ∨ m = 4 ∨ m = 5 ∨ m = 6 ∨ m = 7 ∨ m = 8 ∨ m = 9 ∨ m = 10 ∨ m = 11 ∨ m = 12 := by omega
theorem cal_days (y m : Int) (w : World) (hy : 0 ≤ y) (h0 : 1 ≤ m) (h1 : m ≤ 12) :
    Calls Tryz.prog 148 #[.int .i64 y, .int .i64 m] w fun e w' => e = .returned (.int .i64 (dysI y m)) ∧ ∃ d, w' = bw w d := by
  have HL := Lib.hid (fun W => cal_Leap y W hy)
  unfold dysI
  generalize leapB y = b at *
  clear hy
  rcases mon12 h0 h1 with rfl | rfl | rfl | rfl | rfl | rfl | rfl | rfl | rfl | rfl | rfl | rfl
  all_goals cases b
  all_goals
    clear h0 h1
    have ix0 := ix_0
    have ix1 := ix_1
    have ix2 := ix_2
    have ix3 := ix_3
    have ix4 := ix_4
    have ix5 := ix_5
    have ix6 := ix_6
    have ix7 := ix_7
    have ix8 := ix_8
    have ix9 := ix_9
    have ixA := ix_10
    have ixB := ix_11
    refine lay_start ?_
    go_enter Tryz.func148, Tryz.ntmps148
    go_wp2_with (first | (go_at_call 187; refine (HL.out _).mono ?_; rintro e w' ⟨rfl, rfl⟩) | (go_at_call 188; refine (cal_lengths _).mono ?_; rintro e w' ⟨rfl, d, rfl⟩))
    go_ret
    first | exact ⟨rfl, lay_ex _ _⟩ | exact ⟨rfl, noExt _, (bw_noExt _).symm⟩ | exact ⟨rfl, _, rfl⟩
theorem ref09_Days (y m : Int) (w : World) (hy : 0 ≤ y) (h0 : 1 ≤ m) (h1 : m ≤ 12) :
    Calls Tryz.prog 151 #[.int .i64 y, .int .i64 m] w fun e w' => e = .returned (.int .i64 (dysI y m)) ∧ ∃ d, w' = bw w d := by
  have HL := Lib.hid (fun W => ref09_Leap y W hy)
  unfold dysI
  generalize leapB y = b at *
  clear hy
  rcases mon12 h0 h1 with rfl | rfl | rfl | rfl | rfl | rfl | rfl | rfl | rfl | rfl | rfl | rfl
  all_goals cases b
  all_goals
    clear h0 h1
    refine lay_start ?_
    go_enter Tryz.func151, Tryz.ntmps151
    go_wp2_with (first | (go_at_call 189; refine (HL.out _).mono ?_; rintro e w' ⟨rfl, rfl⟩))
    go_ret
    first | exact ⟨rfl, lay_ex _ _⟩ | exact ⟨rfl, noExt _, (bw_noExt _).symm⟩ | exact ⟨rfl, _, rfl⟩
theorem cal_before (y : Int) (w : World) (h0 : 1 ≤ y) (h1 : y ≤ 9999) :
    Calls Tryz.prog 149 #[.int .i64 y] w fun e w' => e = .returned (.int .i64 (befI y)) ∧ w' = w := by
  have e1 := td_eq (y := y - 1) (c := 4) (by omega)
  have e2 := td_eq (y := y - 1) (c := 100) (by omega)
  have e3 := td_eq (y := y - 1) (c := 400) (by omega)
  unfold befI
  rw [← e1, ← e2, ← e3]
  have b1 : 0 ≤ (y - 1).tdiv 4 ∧ (y - 1).tdiv 4 ≤ 10000 := by omega
  have b2 : 0 ≤ (y - 1).tdiv 100 ∧ (y - 1).tdiv 100 ≤ 10000 := by omega
  have b3 : 0 ≤ (y - 1).tdiv 400 ∧ (y - 1).tdiv 400 ≤ 10000 := by omega
  clear e1 e2 e3
  go_enter Tryz.func149, Tryz.ntmps149
  go_wp2_with fail
  go_ret
  exact ⟨ret_int (by omega), rfl⟩
theorem ref09_before (y : Int) (w : World) (h0 : 1 ≤ y) (h1 : y ≤ 9999) :
    Calls Tryz.prog 118 #[.int .i64 y] w fun e w' => e = .returned (.int .i64 (befI y)) ∧ w' = w := by
  have e1 := td_eq (y := y - 1) (c := 4) (by omega)
  have e2 := td_eq (y := y - 1) (c := 100) (by omega)
  have e3 := td_eq (y := y - 1) (c := 400) (by omega)
  unfold befI
  rw [← e1, ← e2, ← e3]
  have b1 : 0 ≤ (y - 1).tdiv 4 ∧ (y - 1).tdiv 4 ≤ 10000 := by omega
  have b2 : 0 ≤ (y - 1).tdiv 100 ∧ (y - 1).tdiv 100 ≤ 10000 := by omega
  have b3 : 0 ≤ (y - 1).tdiv 400 ∧ (y - 1).tdiv 400 ≤ 10000 := by omega
  clear e1 e2 e3
  go_enter Tryz.func118, Tryz.ntmps118
  go_wp2_with fail
  go_ret
  exact ⟨ret_int (by omega), rfl⟩
end Go.Proofs.YtjfpgpipbooilaaGreat

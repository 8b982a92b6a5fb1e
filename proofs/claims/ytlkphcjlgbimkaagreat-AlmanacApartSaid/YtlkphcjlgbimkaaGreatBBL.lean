/- Contracts and plain laws, several texts in one: Nf0; Nf1; Spo0; Spo; Nil; Ap1; Lg -/
import Derived.Test.YtlkphcjlgbimkaaGreatProg
import Derived.WalkKit
import Derived.WalkSpells
import Derived.WalkLawsBesides
import Derived.Lib.Hide
import Derived.BigQuiet
import Derived.Lib.SliceRun
import Derived.Test.YtlkphcjlgbimkaaGreatBAA
import Derived.Test.YtlkphcjlgbimkaaGreatBAB
import Derived.Test.YtlkphcjlgbimkaaGreatBAN
import Derived.Test.YtlkphcjlgbimkaaGreatBAO
import Derived.Test.YtlkphcjlgbimkaaGreatBAZ
import Derived.Test.YtlkphcjlgbimkaaGreatBBG
import Derived.Test.YtlkphcjlgbimkaaGreatBBH
/- Deep copies of pages once more, whose blocks are all such as may be written. No function of the program. -/
namespace Go.Proofs.YtlkphcjlgbimkaaGreat
open Go.RowKit

/-- A block whose cells may be written. -/
def NF (W : World) (b : Nat) : Prop := ∀ i, W.frozen? ⟨b, i, none⟩ = false
theorem NF.of {W W' : World} {b : Nat} (h : NF W b) (e : W'.heap[b]? = W.heap[b]?) : NF W' b := fun i => (World.frozen?_of_block (w := W) (w' := W') (a := ⟨b, i, none⟩) e).trans (h i)
theorem NF.row {α : Type} {R : RecT α} {w : World} {base g n cap : Nat} {l : List α} (h : OwG R w base (.slice (some ⟨g, 0, none⟩) n cap) l) : NF w g := fun i => h.froz i
theorem NF.bw {W : World} {b : Nat} (h : NF W b) (hb : b < W.heap.size) (d : Ext) : NF (bw W d) b := h.of (bw_get W d b hb)
/-- The outer loop's state: the first i pages are copied. -/
structure CqO (P : Nat → Prop) (w0 : World) (g0 n cap : Nat) (l : List PgV) (i : Nat) (W : World) (ls : List PgW) : Prop where
  own : OwG pgR W w0.heap.size (.slice (some ⟨g0, 0, none⟩) n cap) ls
  len : ls.length = l.length
  sc : ∀ (j : Nat) x p, ls[j]? = some x → l[j]? = some p → x.y = p.y ∧ x.m = p.m ∧ x.d = p.d
  new : ∀ (j : Nat) x p, ls[j]? = some x → l[j]? = some p → j < i → TksD (fun b => w0.heap.size ≤ b ∧ b ≠ g0 ∧ b < W.heap.size ∧ NF W b) W (.slice x.ta x.tn x.tc) p.ts
  old : ∀ (j : Nat) x p, ls[j]? = some x → l[j]? = some p → i ≤ j → TksD P W (.slice x.ta x.tn x.tc) p.ts
/-- The inner loop's state: page i is at its track k; S the size of the heap when the row of tracks was made. -/
structure CqI (P : Nat → Prop) (w0 : World) (g0 n cap : Nat) (l : List PgV) (i S : Nat) (v2 : Value) (p : PgV) (k : Nat) (W : World) (ls : List PgW) (lt : List TkW) : Prop where
  own : OwG pgR W w0.heap.size (.slice (some ⟨g0, 0, none⟩) n cap) ls
  len : ls.length = l.length
  sc : ∀ (j : Nat) x p, ls[j]? = some x → l[j]? = some p → x.y = p.y ∧ x.m = p.m ∧ x.d = p.d
  new : ∀ (j : Nat) x p, ls[j]? = some x → l[j]? = some p → j < i → TksD (fun b => w0.heap.size ≤ b ∧ b ≠ g0 ∧ b < S ∧ NF W b) W (.slice x.ta x.tn x.tc) p.ts
  old : ∀ (j : Nat) x p, ls[j]? = some x → l[j]? = some p → i < j → TksD P W (.slice x.ta x.tn x.tc) p.ts
  at_ : ∃ x, ls[i]? = some x ∧ v2 = .slice x.ta x.tn x.tc
  pg : l[i]? = some p
  sS : S ≤ W.heap.size
  gS : g0 < S
  row : OwG tkR W S v2 lt
  tlen : lt.length = p.ts.length
  tsc : ∀ (j : Nat) x t, lt[j]? = some x → p.ts[j]? = some t → x.s = t.s ∧ x.p = t.p ∧ x.q = t.q ∧ x.r = t.r
  tnew : ∀ (j : Nat) x t, lt[j]? = some x → p.ts[j]? = some t → j < k → LsP (fun b => S ≤ b ∧ b < W.heap.size ∧ (∀ g, v2.ownBlock = some g → b ≠ g) ∧ NF W b) W (.slice x.ga x.gn x.gc) t.g ∧ LsP (fun b => S ≤ b ∧ b < W.heap.size ∧ (∀ g, v2.ownBlock = some g → b ≠ g) ∧ NF W b) W (.slice x.da x.dn x.dc) t.d
  told : ∀ (j : Nat) x t, lt[j]? = some x → p.ts[j]? = some t → k ≤ j → LsP P W (.slice x.ga x.gn x.gc) t.g ∧ LsP P W (.slice x.da x.dn x.dc) t.d
/-- Behind the inner loop page i is copied. -/
theorem CqI.done {P : Nat → Prop} {w0 : World} {g0 n cap : Nat} {l : List PgV} {i S : Nat} {v2 : Value} {p : PgV} {k : Nat} {W : World} {ls : List PgW} {lt : List TkW}
    (h : CqI P w0 g0 n cap l i S v2 p k W ls lt) (hk : p.ts.length ≤ k) (hS : w0.heap.size ≤ S) : CqO P w0 g0 n cap l (i + 1) W ls := by
  refine ⟨h.own, h.len, h.sc, fun j x q hx hq hj => ?_, fun j x q hx hq hj => h.old j x q hx hq (by omega)⟩
  by_cases e : j = i
  · subst e
    obtain ⟨x', hx', hv⟩ := h.at_
    rw [hx] at hx'
    cases hx'
    have hp := h.pg
    rw [hq] at hp
    cases hp
    rw [← hv]
    refine ⟨lt, h.row.sl tkOk, ?_, h.tlen, fun j2 y t hy ht => ?_⟩
    · intro b o n' c e hn
      have hform := h.row
      have hlen : 0 < lt.length := by
        obtain ⟨a, c', e'⟩ := hform.form
        rw [e] at e'
        cases e'
        exact hn
      obtain ⟨g, c', e', h1, h2, _⟩ := hform.form1 hlen
      rw [e'] at hform
      have hnf := NF.row hform
      rw [e] at e'
      cases e'
      have := h.gS
      exact ⟨by omega, by omega, h2, hnf⟩
    · have hj2 : j2 < k := by have := (List.getElem?_eq_some_iff.1 ht).1; omega
      obtain ⟨s1, s2, s3, s4⟩ := h.tsc j2 y t hy ht
      obtain ⟨t1, t2⟩ := h.tnew j2 y t hy ht hj2
      have := h.gS
      exact ⟨s1, t1.mono fun b hb => ⟨by omega, by omega, hb.2.1, hb.2.2.2⟩, t2.mono fun b hb => ⟨by omega, by omega, hb.2.1, hb.2.2.2⟩, s2, s3, s4⟩
  · exact (h.new j x q hx hq (by omega)).mono fun _ hb => ⟨hb.1, hb.2.1, Nat.lt_of_lt_of_le hb.2.2.1 h.sS, hb.2.2.2⟩
/-- The row of tracks of page i is cloned and put into the page. -/
theorem CqO.enter {P : Nat → Prop} {w0 : World} {g0 n cap : Nat} {l : List PgV} {i : Nat} {W : World} {ls : List PgW} (h : CqO P w0 g0 n cap l i W ls) (hP : ∀ b, P b → b < w0.heap.size) {x : PgW} {p : PgV}
    (hx : ls[i]? = some x) (hp : l[i]? = some p) {d : Ext} {a2 : Option Addr} {n2 c2 : Nat} {lt : List TkW} (hg : w0.heap.size ≤ g0) (hgW : g0 < W.heap.size)
    (hlt : SlG tkR W (.slice x.ta x.tn x.tc) lt) (hlen : lt.length = p.ts.length) (hD : ∀ (j : Nat) y t, lt[j]? = some y → p.ts[j]? = some t → TkD P W y t)
    (hrow : OwG tkR (bw W d) W.heap.size (.slice a2 n2 c2) lt) :
    CqI P w0 g0 n cap l i W.heap.size (.slice a2 n2 c2) p 0 ((bw W d).setCell ⟨g0, i * 4 + 3, none⟩ (.slice a2 n2 c2)) (ls.set i { x with ta := a2, tn := n2, tc := c2 }) lt := by
  have hil : i < ls.length := (List.getElem?_eq_some_iff.1 hx).1
  have hsz : ((bw W d).setCell ⟨g0, i * 4 + 3, none⟩ (.slice a2 n2 c2)).heap.size = (bw W d).heap.size := World.size_setCell _ _ _
  have hle := bw_le W d
  have hne : ∀ b, b ≠ g0 → b < W.heap.size → ((bw W d).setCell ⟨g0, i * 4 + 3, none⟩ (.slice a2 n2 c2)).heap[b]? = W.heap[b]? := fun b hb hlt => (heap_set_other hb).trans (bw_get W d b hlt)
  have hset : ∀ (j : Nat) y, (ls.set i { x with ta := a2, tn := n2, tc := c2 })[j]? = some y → j ≠ i → ls[j]? = some y := fun j y hy hj => by
    rw [List.getElem?_set_ne (by omega)] at hy; exact hy
  refine ⟨?_, by rw [List.length_set]; exact h.len, fun j y q hy hq => ?_, fun j y q hy hq hj => ?_, fun j y q hy hq hj => ?_, ⟨_, by rw [List.getElem?_set_self hil], rfl⟩, hp, by rw [hsz]; exact hle, hgW, ?_, hlen,
    fun j y t hy ht => ⟨(hD j y t hy ht).s, (hD j y t hy ht).p, (hD j y t hy ht).q, (hD j y t hy ht).r⟩, fun j y t hy ht hj => absurd hj (Nat.not_lt_zero j), fun j y t hy ht _ => ?_⟩
  · exact owG_store pgOk (h.own.bw d) (j := 3) hx (by decide) rfl (h.own.2 x (List.mem_of_getElem? hx))
  · by_cases e : j = i
    · subst e
      rw [List.getElem?_set_self hil] at hy
      cases hy
      exact h.sc j x q hx hq
    · exact h.sc j y q (hset j y hy e) hq
  · exact ((h.new j y q (hset j y hy (by omega)) hq hj).keep (by rw [hsz]; exact hle) fun b hb hb2 => hne b hb.2.1 hb2).mono fun b hb => ⟨hb.1, hb.2.1, hb.2.2.1, hb.2.2.2.of (hne b hb.2.1 hb.2.2.1)⟩
  · refine (h.old j y q (hset j y hy (by omega)) hq (by omega)).keep (by rw [hsz]; exact hle) fun b hb hb2 => hne b (by have := hP b hb; omega) hb2
  · by_cases hz : lt = []
    · subst hz
      rcases hrow.1.2 with ⟨e, hz⟩ | ⟨g, cap', cur, e, h1, h2, h3⟩
      · rw [e]; exact OwG.nil _ _ _
      · rw [e] at hrow ⊢
        exact owG_same hrow (heap_set_other (by omega))
    · obtain ⟨g, c', e, h1, _⟩ := hrow.form1 (List.length_pos_iff.2 hz)
      rw [e] at hrow ⊢
      exact owG_same hrow (heap_set_other (by omega))
  · have hk := hD j y t hy ht
    exact ⟨hk.g.keep (by rw [hsz]; exact hle) fun b hb hb2 => hne b (by have := hP b hb; omega) hb2, hk.d.keep (by rw [hsz]; exact hle) fun b hb hb2 => hne b (by have := hP b hb; omega) hb2⟩
/-- The two lists of track k are cloned and put into the track. -/
theorem CqI.step {P : Nat → Prop} {w0 : World} {g0 n cap : Nat} {l : List PgV} {i S g1 n1 c1 : Nat} {p : PgV} {k : Nat} {W : World} {ls : List PgW} {lt : List TkW}
    (h : CqI P w0 g0 n cap l i S (.slice (some ⟨g1, 0, none⟩) n1 c1) p k W ls lt) (hP : ∀ b, P b → b < w0.heap.size) (hS : w0.heap.size ≤ S) {x : TkW} {t : TrkV} (hx : lt[k]? = some x) (ht : p.ts[k]? = some t) (hg1 : S ≤ g1) (hg1W : g1 < W.heap.size)
    {d : Ext} {A B : Option Addr} {nA cA nB cB : Nat}
    (hA : LsP (fun b => W.heap.size ≤ b ∧ b < (bw W d).heap.size ∧ NF (bw W d) b) (bw W d) (.slice A nA cA) t.g) (hB : LsP (fun b => W.heap.size ≤ b ∧ b < (bw W d).heap.size ∧ NF (bw W d) b) (bw W d) (.slice B nB cB) t.d) :
    CqI P w0 g0 n cap l i S (.slice (some ⟨g1, 0, none⟩) n1 c1) p (k + 1) (((bw W d).setCell ⟨g1, k * 6 + 1, none⟩ (.slice A nA cA)).setCell ⟨g1, k * 6 + 2, none⟩ (.slice B nB cB)) ls (lt.set k { x with ga := A, gn := nA, gc := cA, da := B, dn := nB, dc := cB }) := by
  have hkl : k < lt.length := (List.getElem?_eq_some_iff.1 hx).1
  obtain ⟨W2, hW2⟩ : ∃ W2, W2 = ((bw W d).setCell ⟨g1, k * 6 + 1, none⟩ (.slice A nA cA)).setCell ⟨g1, k * 6 + 2, none⟩ (.slice B nB cB) := ⟨_, rfl⟩
  have hsz : W2.heap.size = (bw W d).heap.size := by rw [hW2, World.size_setCell, World.size_setCell]
  have hle := bw_le W d
  have hfar : ∀ b, b ≠ g1 → W2.heap[b]? = (bw W d).heap[b]? := fun b hb => by rw [hW2]; exact (heap_set_other hb).trans (heap_set_other hb)
  have hne : ∀ b, b ≠ g1 → b < W.heap.size → W2.heap[b]? = W.heap[b]? := fun b hb hlt => (hfar b hb).trans (bw_get W d b hlt)
  have hgS := h.gS
  have hrow : OwG tkR W2 S (.slice (some ⟨g1, 0, none⟩) n1 c1) (lt.set k { x with ga := A, gn := nA, gc := cA, da := B, dn := nB, dc := cB }) := by
    have r1 := owG_store tkOk (h.row.bw d) (j := 1) (y := { x with ga := A, gn := nA, gc := cA }) (u := .slice A nA cA) hx (by decide) rfl (h.row.2 x (List.mem_of_getElem? hx))
    have r2 := owG_store tkOk r1 (i := k) (j := 2) (x := { x with ga := A, gn := nA, gc := cA }) (y := { x with ga := A, gn := nA, gc := cA, da := B, dn := nB, dc := cB }) (u := .slice B nB cB) (by rw [List.getElem?_set_self hkl]) (by decide) rfl (h.row.2 x (List.mem_of_getElem? hx))
    rw [List.set_set] at r2
    rw [hW2]; exact r2
  rw [← hW2]
  have hset : ∀ (j : Nat) y, (lt.set k { x with ga := A, gn := nA, gc := cA, da := B, dn := nB, dc := cB })[j]? = some y → j ≠ k → lt[j]? = some y := fun j y hy hj => by
    rw [List.getElem?_set_ne (by omega)] at hy; exact hy
  have fresh : ∀ {v : Value} {m : List Int}, LsP (fun b => W.heap.size ≤ b ∧ b < (bw W d).heap.size ∧ NF (bw W d) b) (bw W d) v m → LsP (fun b => S ≤ b ∧ b < W2.heap.size ∧ (∀ g, (Value.slice (some ⟨g1, 0, none⟩) n1 c1).ownBlock = some g → b ≠ g) ∧ NF W2 b) W2 v m := fun hv => by
    have h1 := hv.keep (w' := W2) (by rw [hsz]; exact Nat.le_refl _) fun b hb _ => hfar b (by omega)
    exact h1.mono fun b hb => ⟨by have := h.sS; omega, by rw [hsz]; exact hb.2.1, fun g e => by rw [own_blk] at e; cases e; omega, hb.2.2.of (hfar b (by omega))⟩
  refine ⟨?_, h.len, h.sc, fun j y q hy hq hj => ?_, fun j y q hy hq hj => ?_, h.at_, h.pg, by rw [hsz]; have := h.sS; omega, hgS, hrow, by rw [List.length_set]; exact h.tlen, fun j y q hy hq => ?_, fun j y q hy hq hj => ?_, fun j y q hy hq hj => ?_⟩
  · exact owG_same (h.own.bw d) (hfar g0 (by omega))
  · exact ((h.new j y q hy hq hj).keep (by rw [hsz]; exact hle) fun b hb hb2 => hne b (by omega) hb2).mono fun b hb => ⟨hb.1, hb.2.1, hb.2.2.1, hb.2.2.2.of (hne b (by omega) (by have := h.sS; omega))⟩
  · exact (h.old j y q hy hq hj).keep (by rw [hsz]; exact hle) fun b hb hb2 => hne b (by have := hP b hb; omega) hb2
  · by_cases e : j = k
    · subst e
      rw [List.getElem?_set_self hkl] at hy
      cases hy
      exact h.tsc j x q hx hq
    · exact h.tsc j y q (hset j y hy e) hq
  · by_cases e : j = k
    · subst e
      rw [List.getElem?_set_self hkl] at hy
      cases hy
      rw [ht] at hq
      cases hq
      exact ⟨fresh hA, fresh hB⟩
    · obtain ⟨t1, t2⟩ := h.tnew j y q (hset j y hy e) hq (by omega)
      have kp : ∀ {v : Value} {m : List Int}, LsP (fun b => S ≤ b ∧ b < W.heap.size ∧ (∀ g, (Value.slice (some ⟨g1, 0, none⟩) n1 c1).ownBlock = some g → b ≠ g) ∧ NF W b) W v m → LsP (fun b => S ≤ b ∧ b < W2.heap.size ∧ (∀ g, (Value.slice (some ⟨g1, 0, none⟩) n1 c1).ownBlock = some g → b ≠ g) ∧ NF W2 b) W2 v m := fun hv =>
        (hv.keep (w' := W2) (by rw [hsz]; exact hle) fun b hb hb2 => hne b (hb.2.2.1 g1 rfl) hb2).mono fun b hb => ⟨hb.1, by rw [hsz]; omega, hb.2.2.1, hb.2.2.2.of (hne b (hb.2.2.1 g1 rfl) hb.2.1)⟩
      exact ⟨kp t1, kp t2⟩
  · obtain ⟨t1, t2⟩ := h.told j y q (hset j y hy (by omega)) hq (by omega)
    exact ⟨t1.keep (by rw [hsz]; exact hle) fun b hb hb2 => hne b (by have := hP b hb; omega) hb2, t2.keep (by rw [hsz]; exact hle) fun b hb hb2 => hne b (by have := hP b hb; omega) hb2⟩
/-- Draws and blocks that are made turn nothing. -/
theorem CqO.bw {P : Nat → Prop} {w0 : World} {g0 n cap : Nat} {l : List PgV} {i : Nat} {W : World} {ls : List PgW} (h : CqO P w0 g0 n cap l i W ls) (d : Ext) : CqO P w0 g0 n cap l i (bw W d) ls :=
  ⟨h.own.bw d, h.len, h.sc, fun j x p hx hp hj => ((h.new j x p hx hp hj).keep (bw_le W d) fun b _ hb => bw_get W d b hb).mono fun _ hb => ⟨hb.1, hb.2.1, Nat.lt_of_lt_of_le hb.2.2.1 (bw_le W d), hb.2.2.2.bw hb.2.2.1 d⟩,
    fun j x p hx hp hj => (h.old j x p hx hp hj).keep (bw_le W d) fun b _ hb => bw_get W d b hb⟩
theorem CqI.bw {P : Nat → Prop} {w0 : World} {g0 n cap : Nat} {l : List PgV} {i S : Nat} {v2 : Value} {p : PgV} {k : Nat} {W : World} {ls : List PgW} {lt : List TkW} (h : CqI P w0 g0 n cap l i S v2 p k W ls lt) (d : Ext) : CqI P w0 g0 n cap l i S v2 p k (bw W d) ls lt :=
  ⟨h.own.bw d, h.len, h.sc, fun j x p hx hp hj => ((h.new j x p hx hp hj).keep (bw_le W d) fun b _ hb => bw_get W d b hb).mono fun _ hb => ⟨hb.1, hb.2.1, hb.2.2.1, hb.2.2.2.bw (Nat.lt_of_lt_of_le hb.2.2.1 h.sS) d⟩, fun j x p hx hp hj => (h.old j x p hx hp hj).keep (bw_le W d) fun b _ hb => bw_get W d b hb, h.at_, h.pg,
    Nat.le_trans h.sS (bw_le W d), h.gS, h.row.bw d, h.tlen, h.tsc, fun j x t hx ht hj => ⟨((h.tnew j x t hx ht hj).1.keep (bw_le W d) fun b _ hb => bw_get W d b hb).mono fun _ hb => ⟨hb.1, Nat.lt_of_lt_of_le hb.2.1 (bw_le W d), hb.2.2.1, hb.2.2.2.bw hb.2.1 d⟩,
      ((h.tnew j x t hx ht hj).2.keep (bw_le W d) fun b _ hb => bw_get W d b hb).mono fun _ hb => ⟨hb.1, Nat.lt_of_lt_of_le hb.2.1 (bw_le W d), hb.2.2.1, hb.2.2.2.bw hb.2.1 d⟩⟩,
    fun j x t hx ht hj => ⟨(h.told j x t hx ht hj).1.keep (bw_le W d) fun b _ hb => bw_get W d b hb, (h.told j x t hx ht hj).2.keep (bw_le W d) fun b _ hb => bw_get W d b hb⟩⟩
/-- Behind the outer loop all is copied. -/
theorem CqO.done {P : Nat → Prop} {w0 : World} {g0 n cap : Nat} {l : List PgV} {i : Nat} {W : World} {ls : List PgW} (h : CqO P w0 g0 n cap l i W ls) (hi : l.length ≤ i) (hg : w0.heap.size ≤ g0) (hgW : g0 < W.heap.size) : PgsD (fun b => w0.heap.size ≤ b ∧ b < W.heap.size ∧ NF W b) W (.slice (some ⟨g0, 0, none⟩) n cap) l := by
  refine ⟨ls, h.own.sl pgOk, fun b o n c e hn => by cases e; exact ⟨hg, hgW, NF.row h.own⟩, h.len, fun j x p hx hp => ?_⟩
  obtain ⟨s1, s2, s3⟩ := h.sc j x p hx hp
  exact ⟨s1, s2, s3, (h.new j x p hx hp (by have := (List.getElem?_eq_some_iff.1 hp).1; omega)).mono fun _ hb => ⟨hb.1, hb.2.2⟩⟩
/-- A row of ints cloned. -/
def ClnIntN (w : World) (l : List Int) (e : Ending) (w' : World) : Prop := ∃ A n c d, e = .returned (.slice A n c) ∧ w' = bw w d ∧ LsP (fun b => w.heap.size ≤ b ∧ b < (bw w d).heap.size ∧ NF (bw w d) b) (bw w d) (.slice A n c) l
theorem cln_IntN {P : Nat → Prop} (v : Value) (l : List Int) (w : World) (h : LsP P w v l) (hl : l.length ≤ 1000000000) :
    Calls Tryz.prog 44 #[v] w (ClnIntN w l) := by
  obtain ⟨hs, _⟩ := h
  by_cases hz : l = []
  · subst hz
    obtain ⟨a, c, rfl, -⟩ := hs
    cases a with
    | none =>
      refine (Tryz.slices_Clone_int_nil 0 c w).mono fun e w' ⟨h1, h2⟩ => ⟨none, 0, 0, noExt w, h1, by rw [bw_noExt]; exact h2, Sl.nil _, fun b o n c e hn => by cases e⟩
    | some a =>
      refine (Tryz.slices_Clone_int_zero a c w).mono fun e w' ⟨v', h1, h2, _, h4⟩ => ?_
      obtain ⟨d, rfl⟩ := bw_of h4
      have hO : Ow (bw w d) w.heap.size v' [] := ⟨h2, fun i hi => absurd hi (Nat.not_lt_zero i)⟩
      obtain ⟨a', c', rfl⟩ := hO.form
      exact ⟨_, _, _, d, h1, rfl, hO.sl, fun b o n c e hn => by cases e; exact absurd hn (Nat.lt_irrefl 0)⟩
  · obtain ⟨b, o, cap, rfl, hc, hw, _, hr⟩ := hs.open (List.length_pos_iff.2 hz)
    have := Tryz.slices_Clone_int b o l.length cap l w (Nat.le_refl _) (by omega) hr
    rw [List.take_length] at this
    refine this.mono fun e w' ⟨v', h1, h2, _, h4⟩ => ?_
    obtain ⟨d, rfl⟩ := bw_of h4
    have hO : Ow (bw w d) w.heap.size v' l := ⟨h2, hw⟩
    obtain ⟨g, c', rfl, h5, h6, _⟩ := hO.form1 (List.length_pos_iff.2 hz)
    exact ⟨_, _, _, d, h1, rfl, hO.sl, fun b o n c e _ => by cases e; exact ⟨h5, h6, fun i => hO.1.frozenAt i⟩⟩
end Go.Proofs.YtlkphcjlgbimkaaGreat
/- almanac.copied and Pages once more: all the blocks of the copy may be written. -/
namespace Go.Proofs.YtlkphcjlgbimkaaGreat
open Go.RowKit

/-- A copy of the pages is returned, all its blocks behind the call's, and such as may be written. -/
def CpyPostN (w : World) (l : List PgV) (e : Ending) (w' : World) : Prop := ∃ A c d, e = .returned (.slice A l.length c) ∧ w' = bw w d ∧ PgsD (fun b => w.heap.size ≤ b ∧ b < (bw w d).heap.size ∧ NF (bw w d) b) (bw w d) (.slice A l.length c) l
set_option maxHeartbeats 4000000 in
set_option maxRecDepth 100000 in
theorem alm_copiedN {P : Nat → Prop} (v : Value) (l : List PgV) (w : World) (hv : PgsD P w v l) (hP : ∀ b, P b → b < w.heap.size) (hl : l.length ≤ 1000) (ht : ∀ p ∈ l, p.ts.length ≤ 1000) (hg : ∀ p ∈ l, ∀ t ∈ p.ts, t.g.length ≤ 1000 ∧ t.d.length ≤ 1000) :
    Calls Tryz.prog 98 #[v] w (CpyPostN w l) := by
  obtain ⟨ls, h1, h2, h3, h4⟩ := hv
  have HC := Lib.hid (cln_Page v ls w h1 (by omega))
  by_cases hz : l = []
  · subst hz
    have hls : ls = [] := List.eq_nil_of_length_eq_zero h3
    subst hls
    obtain ⟨a, c, rfl⟩ := h1.form
    clear h1 h2 h4 hg ht hl h3 hP
    refine lay_start ?_
    go_enter Tryz.func98, Tryz.ntmps98
    go_wp2_with fail
    refine HC.out.mono ?_
    rintro e w' ⟨v', d1, rfl, rfl, hO⟩
    have HS := Lib.hid (hO.sl pgOk)
    obtain ⟨va, vc, rfl⟩ := hO.form
    clear hO
    go_wp2_with fail
    refine wp_loop_rounds 1 ?_
    rw [rounds_succ]
    go_wp2
    go_ret
    exact ⟨va, vc, d1, rfl, rfl, [], HS.out, fun b o n c e hn => by cases e; exact absurd hn (Nat.lt_irrefl 0), rfl, fun i x p hx => by simp at hx⟩
  · have hl0 : 0 < ls.length := by rw [h3]; exact List.length_pos_iff.2 hz
    obtain ⟨q, hq⟩ : ∃ q, l.length = q := ⟨_, rfl⟩
    have HQ := Lib.hid hq
    have HP := Lib.hid hP
    have HT := Lib.hid ht
    have HG := Lib.hid hg
    have HD := Lib.hid h4
    have HL3 := Lib.hid h3
    obtain ⟨a, c, rfl⟩ := h1.form
    have hq0 : 0 < q := by omega
    have hq1 : q ≤ 1000 := by omega
    have e3 : ls.length = q := by omega
    have HE := Lib.hid e3
    rw [e3] at HC ⊢
    clear h1 h2 h4 hg ht hl h3 hP hq hz hl0 e3
    refine lay_start ?_
    go_enter Tryz.func98, Tryz.ntmps98
    go_wp2_with fail
    refine HC.out.mono ?_
    rintro e w' ⟨v', d1, rfl, rfl, hO⟩
    obtain ⟨g0, cap, rfl, hg0, hgW, hcap⟩ := hO.form1 (by rw [HE.out]; exact hq0)
    rw [HE.out] at hO hcap ⊢
    have HO0 : Hid (CqO P w g0 q cap l 0 (lay w [.inr d1]) ls) := Lib.hid ⟨hO, HL3.out, fun j x p hx hp => ⟨(HD.out j x p hx hp).y, (HD.out j x p hx hp).m, (HD.out j x p hx hp).d⟩, fun j x p _ _ hj => absurd hj (Nat.not_lt_zero j), fun j x p hx hp _ => (HD.out j x p hx hp).ts.lay [.inr d1]⟩
    clear hO
    go_wp2_with fail
    go_loopw [11] (fun v11 wr => ∃ (i : Nat) (dd : Ext), i ≤ q ∧ v11 = .int .i64 (i : Int) ∧ wr = lay w [.inr dd] ∧ g0 < (lay w [.inr dd]).heap.size ∧ ∃ ls', CqO P w g0 q cap l i (lay w [.inr dd]) ls') (fun v11 _ => q - (intOf v11).toNat)
    case atStart => exact ⟨0, d1, Nat.zero_le _, rfl, rfl, hgW, ls, HO0.out⟩
    case round =>
      obtain ⟨i, dd, hi, rfl, rfl, hgd, ls', hO⟩ := hrel
      have HO := Lib.hid hO
      clear hO
      by_cases hlt : i < q
      · obtain ⟨p, hp⟩ : ∃ p, l[i]? = some p := ⟨_, List.getElem?_eq_getElem (by rw [HQ.out]; exact hlt)⟩
        obtain ⟨x, hx⟩ : ∃ x, ls'[i]? = some x := ⟨_, List.getElem?_eq_getElem (by rw [HO.out.len, HQ.out]; exact hlt)⟩
        obtain ⟨lt, k1, k2, k3, k4⟩ := HO.out.old i x p hx hp (Nat.le_refl i)
        have hpm : p ∈ l := List.mem_of_getElem? hp
        have htn := HT.out p hpm
        have HCt := Lib.hid (cln_Track _ lt _ k1 (by omega))
        have HEn := Lib.hid (fun d a2 n2 c2 hrow => HO.out.enter HP.out hx hp (d := d) (a2 := a2) (n2 := n2) (c2 := c2) hg0 hgd k1 k3 k4 hrow)
        have c3 := HO.out.own.cell pgOk hx (j := 3) (u := .slice x.ta x.tn x.tc) rfl
        have f3 := HO.out.own.froz (i * 4 + 3)
        change (lay w [.inr dd]).cell? ⟨g0, i * 4 + 3, none⟩ = _ at c3
        have x1 : (i : Int) < (q : Int) := by omega
        have x0 : (0 : Int) ≤ (i : Int) := by omega
        have HGt := Lib.hid (HG.out p hpm)
        obtain ⟨nt, hnt⟩ : ∃ nt, p.ts.length = nt := ⟨_, rfl⟩
        have HNt := Lib.hid hnt
        rw [hnt] at htn
        have hltn : lt.length = nt := by rw [k3, hnt]
        have HLt := Lib.hid hltn
        clear k1 k2 k3 k4 hpm hx hp hnt hltn
        generalize x.ta = xa at *
        generalize x.tn = xn at *
        generalize x.tc = xc at *
        go_wp2_with fail
        refine HCt.out.mono ?_
        rintro e w' ⟨v2, d2, rfl, rfl, hO2⟩
        obtain ⟨a2, c2, rfl⟩ := hO2.form
        rw [HLt.out] at hO2 ⊢
        have hE := HEn.out d2 a2 nt c2 hO2
        have f4 : (bw (lay w [.inr dd]) d2).frozen? ⟨g0, i * 4 + 3, none⟩ = false := by rw [bw_frozen _ _ _ _ hgd]; exact f3
        obtain ⟨d3, hd3⟩ := bw_storeG (w := w) (d := ⟨dd.blocks ++ d2.blocks, d2.drawn⟩) (g := g0) (i := i * 4 + 3) (v := .slice a2 nt c2) hg0
        have hww : bw (lay w [.inr dd]) d2 = bw w ⟨dd.blocks ++ d2.blocks, d2.drawn⟩ := bw_bw w dd d2
        have c4 : (bw (lay w [.inr dd]) d2).cell? ⟨g0, i * 4 + 3, none⟩ = some (.slice xa xn xc) := (bw_cell _ _ _ _ hgd).trans c3
        rw [hww] at f4 c4 ⊢
        rw [hww, hd3] at hE
        have HEt := Lib.hid hE
        obtain ⟨y, hy, hyv⟩ := hE.at_
        have c5 := hE.own.cell pgOk hy (j := 3) (u := .slice y.ta y.tn y.tc) rfl
        rw [← hyv] at c5
        change (bw w d3).cell? ⟨g0, i * 4 + 3, none⟩ = _ at c5
        have hgd3 : g0 < (bw w d3).heap.size := Nat.lt_of_lt_of_le hE.gS hE.sS
        have hS0 : w.heap.size ≤ (lay w [.inr dd]).heap.size := bw_le w dd
        clear hE hy hyv
        by_cases hn0 : nt = 0
        · subst hn0
          have HDn := Lib.hid (HEt.out.done (by rw [HNt.out]; exact Nat.le_refl _) hS0)
          go_wp2_with fail
          refine wp_loop_rounds 1 ?_
          rw [rounds_succ]
          go_wp2_with fail
          go_roundw
          case rel => exact ⟨i + 1, d3, by omega, by go_num, rfl, hgd3, _, HDn.out⟩
          case measure => simp [intOf]; omega
        · obtain ⟨g1, c2', hgg, hg1, hg1W, hcap2⟩ := hO2.form1 (by rw [HLt.out]; omega)
          rw [HLt.out] at hgg
          cases hgg
          obtain ⟨LS, hLS⟩ : ∃ LS, ls'.set i { x with ta := some ⟨g1, 0, none⟩, tn := nt, tc := c2 } = LS := ⟨_, rfl⟩
          obtain ⟨S, hSe⟩ : ∃ S, (lay w [.inr dd]).heap.size = S := ⟨_, rfl⟩
          have HE1 : Hid (CqI P w g0 q cap l i S (.slice (some ⟨g1, 0, none⟩) nt c2) p 0 (bw w d3) LS lt) := Lib.hid (by rw [← hLS, ← hSe]; exact HEt.out)
          have hg1d3 : g1 < (bw w d3).heap.size := by rw [← hd3, World.size_setCell, ← hww]; exact hg1W
          rw [hSe] at hS0 hg1
          clear HEt HEn hLS hSe hO2
          go_wp2_with fail
          clear hd3 hww f3 f4 c3 c4 c5
          go_loopw [30] (fun v30 wr => ∃ (k : Nat) (dk : Ext), k ≤ nt ∧ v30 = .int .i64 (k : Int) ∧ wr = lay w [.inr dk] ∧ g0 < (lay w [.inr dk]).heap.size ∧ g1 < (lay w [.inr dk]).heap.size ∧ ∃ lt', CqI P w g0 q cap l i S (.slice (some ⟨g1, 0, none⟩) nt c2) p k (lay w [.inr dk]) LS lt') (fun v30 _ => nt - (intOf v30).toNat)
          case atStart => exact ⟨0, d3, Nat.zero_le _, rfl, rfl, hgd3, hg1d3, lt, HE1.out⟩
          case round =>
            obtain ⟨k, dk, hk, rfl, rfl, gk0, gk1, lt', hI⟩ := hrel
            have HI := Lib.hid hI
            clear hI
            by_cases hkt : k < nt
            · obtain ⟨t, htt⟩ : ∃ t, p.ts[k]? = some t := ⟨_, List.getElem?_eq_getElem (by rw [HNt.out]; exact hkt)⟩
              obtain ⟨z, hzz⟩ : ∃ z, lt'[k]? = some z := ⟨_, List.getElem?_eq_getElem (by rw [HI.out.tlen, HNt.out]; exact hkt)⟩
              obtain ⟨y, hy, hyv⟩ := HI.out.at_
              have c5 := HI.out.own.cell pgOk hy (j := 3) (u := .slice y.ta y.tn y.tc) rfl
              rw [← hyv] at c5
              change (lay w [.inr dk]).cell? ⟨g0, i * 4 + 3, none⟩ = _ at c5
              have c6 : (lay w [.inr dk]).cell? ⟨g1, k * 6 + 1, none⟩ = some (.slice z.ga z.gn z.gc) := HI.out.row.cell tkOk hzz (j := 1) rfl
              have c7 : (lay w [.inr dk]).cell? ⟨g1, k * 6 + 2, none⟩ = some (.slice z.da z.dn z.dc) := HI.out.row.cell tkOk hzz (j := 2) rfl
              have c6q : ∀ d, (lay w [.inr d, .inr dk]).cell? ⟨g1, k * 6 + 1, none⟩ = some (.slice z.ga z.gn z.gc) := fun d => (bw_cell _ d _ _ gk1).trans c6
              have c7q : ∀ d, (lay w [.inr d, .inr dk]).cell? ⟨g1, k * 6 + 2, none⟩ = some (.slice z.da z.dn z.dc) := fun d => (bw_cell _ d _ _ gk1).trans c7
              have fz := HI.out.row.froz (k * 6 + 1)
              have fz2 := HI.out.row.froz (k * 6 + 2)
              obtain ⟨t1, t2⟩ := HI.out.told k z t hzz htt (Nat.le_refl k)
              have hgt := HGt.out t (List.mem_of_getElem? htt)
              have HCA := Lib.hid (fun d => cln_IntN _ t.g (bw (lay w [.inr dk]) d) (t1.bw d) (by omega))
              have HCB := Lib.hid (fun x y z => cln_IntN _ t.d (lay w [.inr x, .inr y, .inr z, .inr dk]) (lsP_on (A := [.inr x, .inr y, .inr z]) t2) (by omega))
              have HSt := Lib.hid (fun d A nA cA B nB cB hA hB => HI.out.step HP.out hS0 hzz htt hg1 gk1 (d := d) (A := A) (nA := nA) (cA := cA) (B := B) (nB := nB) (cB := cB) hA hB)
              have y1 : (k : Int) < (nt : Int) := by omega
              have y0 : (0 : Int) ≤ (k : Int) := by omega
              clear hy hyv hzz htt t1 t2 hgt
              generalize z.ga = za at *
              generalize z.gn = zn at *
              generalize z.gc = zc at *
              generalize z.da = zda at *
              generalize z.dn = zdn at *
              generalize z.dc = zdc at *
              go_wp2_with fail
              refine region_mixS 14 [(0, 2), (1, 2), (2, 2), (3, 2), (4, 2), (7, 2), (8, 2), (9, 2), (5, 0), (10, 0), (6, 1), (11, 1), (12, 2), (13, 2), (14, 3), (15, 2), (16, 2), (17, 3)] (by kernel_rfl) (by kernel_rfl) (by kernel_rfl) rfl ?_
              repeat (first | (refine wpMS_pure rfl (fun K hK => ?_); go_simp; refine hK _ ?_; clear hK K) | (refine wpMS_quiet rfl (fun K hK => ?_); go_simp; first | (refine hK _ ?_; clear hK K) | (apply Exists.intro; refine ⟨fun _ => ?_, hK _ ?_⟩; (first | fail); clear hK K)))
              refine wpMS_special rfl (fun K hK e1 => ?_)
              go_simp
              refine (HCA.out e1).mono ?_
              rintro e w' ⟨A, nA, cA, dA, rfl, rfl, hA⟩
              have HA1 := Lib.hid hA
              clear hA
              refine ⟨_, rfl, ?_⟩
              refine hK _ _ ⟨_, bw_bw _ _ _⟩ ?_
              clear hK K
              refine wpMS_special rfl (fun K hK e2 => ?_)
              go_simp
              refine (HCB.out e2 dA e1).mono ?_
              rintro e w' ⟨B, nB, cB, dB, rfl, rfl, hB⟩
              refine ⟨_, rfl, ?_⟩
              obtain ⟨dT, hdT⟩ := lay_in w [.inr dB, .inr e2, .inr dA, .inr e1] [.inr dk]
              have HB1 := Lib.hid hB
              clear hB
              refine hK _ _ ⟨dT, hdT⟩ ?_
              clear hK K
              rw [show bw (lay w [.inr e2, .inr dA, .inr e1, .inr dk]) dB = bw (lay w [.inr dk]) dT from hdT]
              repeat (first | (refine wpMS_pure rfl (fun K hK => ?_); go_simp; refine hK _ ?_; clear hK K) | (refine wpMS_quiet rfl (fun K hK => ?_); go_simp; first | (refine hK _ ?_; clear hK K) | (apply Exists.intro; refine ⟨fun _ => ?_, hK _ ?_⟩; (first | fail); clear hK K)))
              refine wpMS_store rfl (fun K hK e3 => ?_)
              obtain ⟨dU, hdU⟩ : ∃ x, bw (bw (lay w [.inr dk]) dT) e3 = bw (lay w [.inr dk]) x := ⟨_, bw_bw _ _ _⟩
              rw [hdU]
              have hdAll : lay w ([.inr e3, .inr dB, .inr e2, .inr dA, .inr e1] ++ [.inr dk]) = bw (lay w [.inr dk]) dU := by rw [← hdU, ← hdT]; rfl
              have hA2 : LsP (fun b => (lay w [.inr dk]).heap.size ≤ b ∧ b < (bw (lay w [.inr dk]) dU).heap.size ∧ NF (bw (lay w [.inr dk]) dU) b) (bw (lay w [.inr dk]) dU) (.slice A nA cA) t.g := by
                have h := lsP_on (A := [.inr e3, .inr dB, .inr e2]) (B := [.inr dA, .inr e1, .inr dk]) HA1.out
                have hz := lay_belowG (w := w) (A := [.inr e3, .inr dB, .inr e2]) (B := [.inr dA, .inr e1, .inr dk])
                rw [← hdAll]
                exact h.mono fun b hb => ⟨Nat.le_trans (bw_le _ e1) hb.1, Nat.lt_of_lt_of_le hb.2.1 hz.size, hb.2.2.of (hz.block b hb.2.1)⟩
              have hB2 : LsP (fun b => (lay w [.inr dk]).heap.size ≤ b ∧ b < (bw (lay w [.inr dk]) dU).heap.size ∧ NF (bw (lay w [.inr dk]) dU) b) (bw (lay w [.inr dk]) dU) (.slice B nB cB) t.d := by
                have h := lsP_on (A := [.inr e3]) (B := [.inr dB, .inr e2, .inr dA, .inr e1, .inr dk]) HB1.out
                have hz := lay_belowG (w := w) (A := [.inr e3]) (B := [.inr dB, .inr e2, .inr dA, .inr e1, .inr dk])
                have hz2 : (lay w [.inr dk]).heap.size ≤ (lay w [.inr e2, .inr dA, .inr e1, .inr dk]).heap.size := (lay_belowG (A := [.inr e2, .inr dA, .inr e1]) (B := [.inr dk])).size
                rw [← hdAll]
                exact h.mono fun b hb => ⟨Nat.le_trans hz2 hb.1, Nat.lt_of_lt_of_le hb.2.1 hz.size, hb.2.2.of (hz.block b hb.2.1)⟩
              have HFin := Lib.hid (HSt.out dU A nA cA B nB cB hA2 hB2)
              clear hA2 hB2 hdAll
              have f6 : (lay w [.inr dU, .inr dk]).frozen? ⟨g1, k * 6 + 1, none⟩ = false := (bw_frozen _ dU _ _ gk1).trans fz
              have f7 : (lay w [.inr dU, .inr dk]).frozen? ⟨g1, k * 6 + 2, none⟩ = false := (bw_frozen _ dU _ _ gk1).trans fz2
              have c6u := c6q dU
              have c7u := c7q dU
              go_simp
              refine hK _ _ ?_
              clear hK K
              repeat (first | (refine wpMS_pure rfl (fun K hK => ?_); go_simp; refine hK _ ?_; clear hK K) | (refine wpMS_quiet rfl (fun K hK => ?_); go_simp; first | (refine hK _ ?_; clear hK K) | (apply Exists.intro; refine ⟨fun _ => ?_, hK _ ?_⟩; (first | fail); clear hK K)))
              refine wpMS_store rfl (fun K hK e4 => ?_)
              have gU : g1 < ((lay w [.inr dU, .inr dk]).setCell ⟨g1, k * 6 + 1, none⟩ (.slice A nA cA)).heap.size := by rw [World.size_setCell]; exact Nat.lt_of_lt_of_le gk1 (bw_le _ dU)
              obtain ⟨dY, hdY⟩ : ∃ x, bw ((lay w [.inr dU, .inr dk]).setCell ⟨g1, k * 6 + 1, none⟩ (.slice A nA cA)) e4 = lay w [.inr x] := by
                obtain ⟨x, hx⟩ := bw_storeG (w := w) (d := ⟨dk.blocks ++ dU.blocks, dU.drawn⟩) (g := g1) (i := k * 6 + 1) (v := .slice A nA cA) (Nat.le_trans hS0 hg1)
                rw [show lay w [.inr dU, .inr dk] = bw w ⟨dk.blocks ++ dU.blocks, dU.drawn⟩ from bw_bw w dk dU, hx]
                exact ⟨_, bw_bw _ _ _⟩
              have c8 : (lay w [.inr dY]).cell? ⟨g1, k * 6 + 2, none⟩ = some (.slice zda zdn zdc) := by
                rw [← hdY, bw_cell _ _ _ _ gU]
                refine (World.cell?_setCell_other _ _ _ _ ?_).trans c7u
                intro h
                have : k * 6 + 1 = k * 6 + 2 := congrArg Addr.off h
                omega
              have f8 : (lay w [.inr dY]).frozen? ⟨g1, k * 6 + 2, none⟩ = false := by
                rw [← hdY, bw_frozen _ _ _ _ gU, World.frozen?_setCell]
                exact f7
              rw [hdY]
              go_simp
              refine hK _ _ ?_
              clear hK K
              refine wpMS_nil (fun e5 => ?_)
              have gY : g1 < (lay w [.inr dY]).heap.size := by rw [← hdY]; exact Nat.lt_of_lt_of_le gU (bw_le _ e4)
              have gY0 : g0 < (lay w [.inr dY]).heap.size := by rw [← hdY]; refine Nat.lt_of_lt_of_le ?_ (bw_le _ e4); rw [World.size_setCell]; exact Nat.lt_of_lt_of_le gk0 (bw_le _ dU)
              have hFin2 : ∃ LT, CqI P w g0 q cap l i S (.slice (some ⟨g1, 0, none⟩) nt c2) p (k + 1) (bw ((lay w [.inr dY]).setCell ⟨g1, k * 6 + 2, none⟩ (.slice B nB cB)) e5) LS LT := by
                rw [← hdY, bw_setCell _ _ _ _ _ gU]
                exact ⟨_, (HFin.out.bw e4).bw e5⟩
              obtain ⟨dF, hdF⟩ : ∃ x, bw ((lay w [.inr dY]).setCell ⟨g1, k * 6 + 2, none⟩ (.slice B nB cB)) e5 = lay w [.inr x] := by
                obtain ⟨x, hx⟩ := bw_storeG (w := w) (d := dY) (g := g1) (i := k * 6 + 2) (v := .slice B nB cB) (Nat.le_trans hS0 hg1)
                rw [show lay w [.inr dY] = bw w dY from rfl, hx]
                exact ⟨_, bw_bw _ _ _⟩
              have gF : g1 < (lay w [.inr dF]).heap.size := by rw [← hdF]; refine Nat.lt_of_lt_of_le ?_ (bw_le _ e5); rw [World.size_setCell]; exact gY
              have gF0 : g0 < (lay w [.inr dF]).heap.size := by rw [← hdF]; refine Nat.lt_of_lt_of_le ?_ (bw_le _ e5); rw [World.size_setCell]; exact gY0
              rw [hdF] at hFin2 ⊢
              have HFin3 := Lib.hid hFin2
              clear hFin2 HFin
              go_wp2_with fail
              go_roundw
              case rel => exact ⟨k + 1, dF, by omega, by go_num, rfl, gF0, gF, HFin3.out⟩
              case measure => simp [intOf]; omega
            · obtain rfl : k = nt := by omega
              have HDn := Lib.hid (HI.out.done (by rw [HNt.out]; exact Nat.le_refl _) hS0)
              have y1 : ¬ (k : Int) < (k : Int) := by omega
              go_wp2_with fail
              go_roundw
              case rel => exact ⟨i + 1, dk, by omega, by go_num, rfl, gk0, _, HDn.out⟩
              case measure => simp [intOf]; omega
      · obtain rfl : i = q := by omega
        have HB := Lib.hid (HO.out.done (by rw [HQ.out]; exact Nat.le_refl _) hg0 hgd)
        have x1 : ¬ (i : Int) < (i : Int) := by omega
        go_wp2_with fail
        go_ret
        exact ⟨some ⟨g0, 0, none⟩, cap, dd, by rw [HQ.out]; rfl, rfl, by rw [HQ.out]; exact HB.out⟩
set_option maxHeartbeats 1000000 in
theorem alm_PagesN {P : Nat → Prop} (bk : Nat) (vd vp vs : Value) (lp : List PgV) (w : World) (hB : BkL P w bk vd vp vs lp) (hP : ∀ b, P b → b < w.heap.size) :
    Calls Tryz.prog 38 #[.pointer (some ⟨bk, 0, none⟩)] w (CpyPostN w lp) := by
  have HCp := Lib.hid (fun L => alm_copiedN vp lp (lay w L) (hB.pgs.lay L) (fun b hb => Nat.lt_of_lt_of_le (hP b hb) (lay_extends w L).size) (by have := hB.few; omega) (fun p hpm => by have := (hB.ok p hpm).len; omega) (fun p hpm t ht => by
    obtain ⟨i, hi, rfl⟩ := List.getElem_of_mem ht
    have := (hB.ok p hpm).ok i p.ts[i] (List.getElem?_eq_getElem hi)
    have h1 := (trkB_iff.1 this.1).lg
    have h2 := (trkB_iff.1 this.1).ld
    omega))
  obtain ⟨k0, k1, k2, k3⟩ := hB.bk
  clear hB hP
  unfold CpyPostN at *
  refine lay_start ?_
  go_enter Tryz.func38, Tryz.ntmps38
  go_wp2_with fail
  refine (HCp.out _).mono ?_
  rintro e w' ⟨A, c, d, rfl, rfl, hA⟩
  have HA := Lib.hid hA
  clear hA
  go_wp2_with fail
  go_ret
  exact ⟨A, c, d, rfl, rfl, HA.out⟩
end Go.Proofs.YtlkphcjlgbimkaaGreat
/- Writes that keep the kinds of cells, into certain blocks only: what holds over them. No function of the program. -/
namespace Go.Proofs.YtlkphcjlgbimkaaGreat
open Go.RowKit

/-- A value of the same kind; of a slice the same. -/
def SameK (u v : Value) : Prop := match u with
  | .int k _ => ∃ y, v = .int k y
  | .string _ => ∃ s, v = .string s
  | _ => v = u
theorem SameK.refl (u : Value) : SameK u u := by
  cases u <;> first | exact ⟨_, rfl⟩ | rfl
theorem SameK.trans {u v x : Value} (h : SameK u v) (k : SameK v x) : SameK u x := by
  cases u <;> first
    | (obtain ⟨y, rfl⟩ := h; exact k)
    | (cases h; exact k)
/-- From W0 to W only the blocks of P were written, and kinds were kept. -/
structure Kp (P : Nat → Prop) (W0 W : World) : Prop where
  size : W0.heap.size ≤ W.heap.size
  cell : ∀ b i u, b < W0.heap.size → W0.cell? ⟨b, i, none⟩ = some u → ∃ v, W.cell? ⟨b, i, none⟩ = some v ∧ SameK u v
  froz : ∀ b i, b < W0.heap.size → W.frozen? ⟨b, i, none⟩ = W0.frozen? ⟨b, i, none⟩
  far : ∀ b, b < W0.heap.size → ¬ P b → W.heap[b]? = W0.heap[b]?
theorem Kp.refl (P : Nat → Prop) (W : World) : Kp P W W := ⟨Nat.le_refl _, fun _ _ u _ h => ⟨u, h, SameK.refl u⟩, fun _ _ _ => rfl, fun _ _ _ => rfl⟩
theorem Kp.bw {P : Nat → Prop} {W0 W : World} (h : Kp P W0 W) (d : Ext) : Kp P W0 (bw W d) :=
  ⟨Nat.le_trans h.size (bw_le W d), fun b i u hb hu => by
    obtain ⟨v, h1, h2⟩ := h.cell b i u hb hu
    exact ⟨v, (bw_cell W d b i (Nat.lt_of_lt_of_le hb h.size)).trans h1, h2⟩, fun b i hb => (bw_frozen W d b i (Nat.lt_of_lt_of_le hb h.size)).trans (h.froz b i hb), fun b hb hn => (bw_get W d b (Nat.lt_of_lt_of_le hb h.size)).trans (h.far b hb hn)⟩
theorem Kp.set {P : Nat → Prop} {W0 W : World} (h : Kp P W0 W) {b i : Nat} {u v : Value} (hP : P b) (hb : b < W0.heap.size) (hu : W0.cell? ⟨b, i, none⟩ = some u) (hk : SameK u v) : Kp P W0 (W.setCell ⟨b, i, none⟩ v) := by
  refine ⟨by rw [World.size_setCell]; exact h.size, fun b' i' u' hb' hu' => ?_, fun b' i' hb' => by rw [World.frozen?_setCell]; exact h.froz b' i' hb', fun b' hb' hn => ?_⟩
  · obtain ⟨v', h1, h2⟩ := h.cell b' i' u' hb' hu'
    by_cases e : (⟨b', i', none⟩ : Addr) = ⟨b, i, none⟩
    · cases e
      rw [hu] at hu'
      cases hu'
      exact ⟨v, World.cell?_setCell_same _ _ _ h1, hk⟩
    · exact ⟨v', (World.cell?_setCell_other _ _ _ _ (fun e2 => e e2.symm)).trans h1, h2⟩
  · have hne : b' ≠ b := fun e => by subst e; exact hn hP
    exact (heap_set_other hne).trans (h.far b' hb' hn)
theorem Kp.sets {P : Nat → Prop} {W0 : World} {b : Nat} (hP : P b) (hb : b < W0.heap.size) : ∀ (vs : List Value) (o : Nat) (W : World), Kp P W0 W → (∀ j v, vs[j]? = some v → ∃ u, W0.cell? ⟨b, o + j, none⟩ = some u ∧ SameK u v) → Kp P W0 (W.setCells b o vs)
  | [], _, _, h, _ => h
  | v :: vs, o, W, h, hc => by
    obtain ⟨u, h1, h2⟩ := hc 0 v rfl
    refine Kp.sets hP hb vs (o + 1) _ (h.set hP hb h1 h2) fun j x hx => ?_
    obtain ⟨u', h3, h4⟩ := hc (j + 1) x hx
    exact ⟨u', by rw [show o + 1 + j = o + (j + 1) by omega]; exact h3, h4⟩
/-- A slice's cell reads as it did. -/
theorem Kp.slice {P : Nat → Prop} {W0 W : World} (h : Kp P W0 W) {b i : Nat} {a : Option Addr} {n c : Nat} (hb : b < W0.heap.size) (hu : W0.cell? ⟨b, i, none⟩ = some (.slice a n c)) : W.cell? ⟨b, i, none⟩ = some (.slice a n c) := by
  obtain ⟨v, h1, h2⟩ := h.cell b i _ hb hu
  exact h1.trans (congrArg some h2)
theorem Kp.trans {P Q : Nat → Prop} {W0 W1 W : World} (h : Kp P W0 W1) (k : Kp Q W1 W) : Kp (fun b => P b ∨ Q b) W0 W :=
  ⟨Nat.le_trans h.size k.size, fun b i u hb hu => by
    obtain ⟨v, h1, h2⟩ := h.cell b i u hb hu
    obtain ⟨x, k1, k2⟩ := k.cell b i v (Nat.lt_of_lt_of_le hb h.size) h1
    exact ⟨x, k1, h2.trans k2⟩, fun b i hb => (k.froz b i (Nat.lt_of_lt_of_le hb h.size)).trans (h.froz b i hb),
    fun b hb hn => (k.far b (Nat.lt_of_lt_of_le hb h.size) (fun e => hn (Or.inr e))).trans (h.far b hb (fun e => hn (Or.inl e)))⟩
/-- Stores behind w are a change behind w. -/
theorem bw_stores {w : World} {g : Nat} (hg : w.heap.size ≤ g) : ∀ (vs : List Value) (o : Nat) (d : Ext), ∃ d', (bw w d).setCells g o vs = bw w d'
  | [], _, d => ⟨d, rfl⟩
  | v :: vs, o, d => by
    obtain ⟨d1, h1⟩ := bw_storeG (w := w) (d := d) (g := g) (i := o) (v := v) hg
    obtain ⟨d2, h2⟩ := bw_stores hg vs (o + 1) d1
    exact ⟨d2, by rw [World.setCells, h1, h2]⟩
theorem run_clear_none (w : World) (P : Program) (t e ty : TypeId) (a : Option Addr) (c : Nat) (ht : P.underlying t = some (.slice e)) :
    (Builtin.clear_ #[t] ty #[.slice a 0 c]).run P w = .ok (.tuple #[]) w := by
  cases a <;> simp [Builtin.clear_, run_underlying ht]
theorem spo_zero (w : World) : (zeroValue 3).run Tryz.prog w = .ok (.int .i64 0) w := by kernel_rfl
/-- clear of a row of ints. -/
theorem kp_clear {P : Nat → Prop} {w : World} {d dk : Ext} {a : Option Addr} {n c : Nat} {l : List Int} (hP : ∀ b, P b → w.heap.size ≤ b ∧ NF (bw w d) b) (h : LsP P (bw w d) (.slice a n c) l) (k : Kp P (bw w d) (bw w dk)) :
    ∃ d', (∀ ty, (Builtin.clear_ #[55] ty #[.slice a n c]).run Tryz.prog (bw w dk) = .ok (.tuple #[]) (bw w d')) ∧ Kp P (bw w d) (bw w d') := by
  by_cases hn : n = 0
  · subst hn
    exact ⟨dk, fun ty => run_clear_none _ _ _ _ ty a c Tryz.underlying55, k⟩
  · obtain ⟨a', c', he, _, _, h4⟩ := id h.1
    have hnl : n = l.length := by cases he; rfl
    obtain ⟨b, o, ha, hb, hc⟩ := h4 (by rintro rfl; exact hn hnl)
    simp only [Value.slice.injEq] at he
    obtain ⟨rfl, _, rfl⟩ := he
    subst ha
    have hPb := h.2 b o n c rfl (by omega)
    obtain ⟨hw, hf⟩ := hP b hPb
    obtain ⟨d', hd⟩ := bw_stores hw (List.replicate n (.int .i64 0)) o dk
    refine ⟨d', fun ty => ?_, ?_⟩
    · rw [← hd]
      refine Lib.run_clear_slice _ _ _ ty _ Tryz.underlying55 spo_zero rfl rfl b o n c (by omega) (fun j hj => ?_) (fun j hj => (k.froz b (o + j) hb).trans (hf _))
      obtain ⟨v, h1, _⟩ := k.cell b (o + j) _ hb (hc j (by omega))
      rw [h1]; rfl
    · rw [← hd]
      refine Kp.sets hPb hb _ _ _ k fun j v hv => ?_
      have hj : j < n := by have := (List.getElem?_eq_some_iff.1 hv).1; rwa [List.length_replicate] at this
      rw [List.getElem?_replicate, if_pos hj] at hv
      cases hv
      exact ⟨_, hc j (by omega), 0, rfl⟩
/-- One store. -/
theorem kp_set {P : Nat → Prop} {w : World} {d dk : Ext} (hP : ∀ b, P b → w.heap.size ≤ b ∧ NF (bw w d) b) {b i : Nat} {u v : Value} (hPb : P b) (hb : b < (bw w d).heap.size) (hu : (bw w d).cell? ⟨b, i, none⟩ = some u) (hk : SameK u v) (k : Kp P (bw w d) (bw w dk)) :
    ∃ d', (bw w dk).setCell ⟨b, i, none⟩ v = bw w d' ∧ Kp P (bw w d) (bw w d') := by
  obtain ⟨d', hd⟩ := bw_storeG (w := w) (d := dk) (g := b) (i := i) (v := v) (hP b hPb).1
  exact ⟨d', hd, by rw [← hd]; exact k.set hPb hb hu hk⟩
end Go.Proofs.YtlkphcjlgbimkaaGreat
/- AlmanacApart$1 (spoil): it writes into its arguments' blocks only. -/
namespace Go.Proofs.YtlkphcjlgbimkaaGreat
open Go.RowKit

def SpoPost (P : Nat → Prop) (w : World) (d : Ext) (e : Ending) (w' : World) : Prop := e = .returned (.tuple #[]) ∧ ∃ d', w' = bw w d' ∧ Kp P (bw w d) (bw w d')
set_option maxHeartbeats 4000000 in
set_option maxRecDepth 100000 in
theorem law17_spoil {P : Nat → Prop} (vp vs : Value) (lp : List PgV) (ls : List StarV) (w : World) (d : Ext) (hp : PgsD P (bw w d) vp lp) (hv : SlG stR (bw w d) vs ls) (hb : Blk P vs)
    (hP : ∀ b, P b → w.heap.size ≤ b ∧ NF (bw w d) b) :
    Calls Tryz.prog 46 #[vp, vs] (bw w d) (SpoPost P w d) := by
  obtain ⟨pa, pc, rfl⟩ := pgs_form hp
  obtain ⟨sa, sc, rfl⟩ := hv.form
  obtain ⟨q, hq⟩ : ∃ q, lp.length = q := ⟨_, rfl⟩
  obtain ⟨m, hm⟩ : ∃ m, ls.length = m := ⟨_, rfl⟩
  have HQ := Lib.hid hq
  have HM := Lib.hid hm
  have HV := Lib.hid hp
  have HS := Lib.hid hv
  have HB := Lib.hid hb
  have HP := Lib.hid hP
  rw [hq] at HV ⊢
  rw [hm] at HS HB ⊢
  clear hp hv hb hP hq hm
  have HK0 := Lib.hid (Kp.refl P (bw w d))
  change Calls Tryz.prog _ _ (lay w [.inr d]) _
  refine lay_start ?_
  go_enter Tryz.func46, Tryz.ntmps46
  go_wp2_with fail
  go_loopw [9] (fun v9 wr => ∃ (i : Nat) (dd : Ext), i ≤ q ∧ v9 = .int .i64 (i : Int) ∧ wr = lay w [.inr dd] ∧ Kp P (bw w d) (bw w dd)) (fun v9 _ => q - (intOf v9).toNat)
  case atStart => exact ⟨0, d, Nat.zero_le _, rfl, rfl, HK0.out⟩
  case round =>
    obtain ⟨i, dd, hi, rfl, rfl, hK⟩ := hrel
    have HK := Lib.hid hK
    clear hK
    by_cases hlt : i < q
    · obtain ⟨p, hp⟩ : ∃ p, lp[i]? = some p := ⟨_, List.getElem?_eq_getElem (by rw [HQ.out]; exact hlt)⟩
      obtain ⟨b, o, cap, hv', hcc, hb, hPb, hr⟩ := HV.out.open (by rw [HQ.out]; omega)
      rw [HQ.out] at hv'
      cases hv'
      obtain ⟨x, -, hD, c0, c1, c2, c3⟩ := hr i p hp
      rw [HQ.out] at hcc
      have HTs := Lib.hid hD.ts
      obtain ⟨ta', tc', hv'⟩ := hD.ts.form
      obtain ⟨nt, hnt⟩ : ∃ nt, p.ts.length = nt := ⟨_, rfl⟩
      have HNt := Lib.hid hnt
      have C0 := Lib.hid c0
      have C1 := Lib.hid c1
      have C2 := Lib.hid c2
      have C3 := Lib.hid c3
      have HPb := Lib.hid (And.intro hPb hb)
      have x1 : (i : Int) < (q : Int) := by omega
      have x0 : (0 : Int) ≤ (i : Int) := by omega
      have k3 : (lay w [.inr dd]).cell? ⟨b, o + i * 4 + 3, none⟩ = some (.slice x.ta x.tn x.tc) := HK.out.slice hb c3
      rw [hnt] at hv'
      clear hD hp hr hnt c0 c1 c2 c3 hPb
      obtain ⟨xy, xm, xd, ta, tn, tc⟩ := x
      dsimp only at C0 C1 C2 C3 k3 HTs hv'
      cases hv'
      go_wp2_with fail
      go_loopw [18] (fun v18 wr => ∃ (k : Nat) (dk : Ext), k ≤ nt ∧ v18 = .int .i64 (k : Int) ∧ wr = lay w [.inr dk] ∧ Kp P (bw w d) (bw w dk)) (fun v18 _ => nt - (intOf v18).toNat)
      case atStart => exact ⟨0, dd, Nat.zero_le _, rfl, rfl, HK.out⟩
      case round =>
        obtain ⟨k, dk, hk, rfl, rfl, hK⟩ := hrel
        clear HK k3
        have HK := Lib.hid hK
        clear hK
        by_cases hkt : k < nt
        · obtain ⟨t, htt⟩ : ∃ t, p.ts[k]? = some t := ⟨_, List.getElem?_eq_getElem (by rw [HNt.out]; exact hkt)⟩
          obtain ⟨b2, o2, cap2, hv', hcc2, hb2, hPb2, hr2⟩ := HTs.out.open (by rw [HNt.out]; omega)
          rw [HNt.out] at hv' hcc2
          cases hv'
          obtain ⟨z, -, hzD, e0, e1, e2, -, -, -⟩ := hr2 k t htt
          obtain ⟨d1, w1, hK1⟩ := kp_clear HP.out hzD.g HK.out
          obtain ⟨d2, w2, hK2⟩ := kp_clear HP.out hzD.d hK1
          obtain ⟨d3, w3, hK3⟩ := kp_set HP.out (i := o2 + k * 6) (v := .string ⟨#[120]⟩) hPb2 hb2 e0 ⟨_, rfl⟩ hK2
          have HK3 := Lib.hid hK3
          have HW3 := Lib.hid w3
          have k3 : ∀ dz, Kp P (bw w d) (bw w dz) → (lay w [.inr dz]).cell? ⟨b, o + i * 4 + 3, none⟩ = some (.slice (some ⟨b2, o2, none⟩) nt tc') := fun dz h => h.slice HPb.out.2 C3.out
          have k30 := k3 dk HK.out
          have k31 := k3 d1 hK1
          have k32 := k3 d2 hK2
          have g1 : (lay w [.inr dk]).cell? ⟨b2, o2 + k * 6 + 1, none⟩ = some (.slice z.ga z.gn z.gc) := HK.out.slice hb2 e1
          have g2 : (lay w [.inr d1]).cell? ⟨b2, o2 + k * 6 + 2, none⟩ = some (.slice z.da z.dn z.dc) := hK1.slice hb2 e2
          obtain ⟨u0, g0, -⟩ := hK2.cell b2 _ _ hb2 e0
          have f0 := (hK2.froz b2 (o2 + k * 6) hb2).trans ((HP.out b2 hPb2).2 _)
          change (lay w [.inr d2]).cell? _ = _ at g0
          change (lay w [.inr d2]).frozen? _ = _ at f0
          change ∀ ty, Sem.run _ _ (lay w [.inr dk]) = .ok _ (lay w [.inr d1]) at w1
          change ∀ ty, Sem.run _ _ (lay w [.inr d1]) = .ok _ (lay w [.inr d2]) at w2
          have y1 : (k : Int) < (nt : Int) := by omega
          have y0 : (0 : Int) ≤ (k : Int) := by omega
          clear hzD htt hr2 hK1 hK2 hK3 k3 e0 e1 e2 w3 hPb2
          generalize z.ga = za at *
          generalize z.gn = zn at *
          generalize z.gc = zc at *
          generalize z.da = zda at *
          generalize z.dn = zdn at *
          generalize z.dc = zdc at *
          go_wp2_with fail
          go_roundw
          case rel => exact ⟨k + 1, d3, by omega, by go_num, HW3.out, HK3.out⟩
          case measure => simp [intOf]; omega
        · obtain rfl : k = nt := by omega
          have y1 : ¬ (k : Int) < (k : Int) := by omega
          obtain ⟨hPb, -⟩ := HPb.out
          obtain ⟨d1, w1, hK1⟩ := kp_set HP.out (i := o + i * 4) (v := .int .i64 0) hPb hb C0.out ⟨_, rfl⟩ HK.out
          obtain ⟨d2, w2, hK2⟩ := kp_set HP.out (i := o + i * 4 + 1) (v := .int .i64 0) hPb hb C1.out ⟨_, rfl⟩ hK1
          obtain ⟨d3, w3, hK3⟩ := kp_set HP.out (i := o + i * 4 + 2) (v := .int .i64 0) hPb hb C2.out ⟨_, rfl⟩ hK2
          have HK3 := Lib.hid hK3
          obtain ⟨u0, g0, -⟩ := HK.out.cell b _ _ hb C0.out
          obtain ⟨u1, g1, -⟩ := hK1.cell b _ _ hb C1.out
          obtain ⟨u2, g2, -⟩ := hK2.cell b _ _ hb C2.out
          have f0 := (HK.out.froz b (o + i * 4) hb).trans ((HP.out b hPb).2 _)
          have f1 := (hK1.froz b (o + i * 4 + 1) hb).trans ((HP.out b hPb).2 _)
          have f2 := (hK2.froz b (o + i * 4 + 2) hb).trans ((HP.out b hPb).2 _)
          change (lay w [.inr dk]).cell? _ = _ at g0
          change (lay w [.inr d1]).cell? _ = _ at g1
          change (lay w [.inr d2]).cell? _ = _ at g2
          change (lay w [.inr dk]).frozen? _ = _ at f0
          change (lay w [.inr d1]).frozen? _ = _ at f1
          change (lay w [.inr d2]).frozen? _ = _ at f2
          change (lay w [.inr dk]).setCell _ _ = lay w [.inr d1] at w1
          change (lay w [.inr d1]).setCell _ _ = lay w [.inr d2] at w2
          change (lay w [.inr d2]).setCell _ _ = lay w [.inr d3] at w3
          clear hK1 hK2 hK3 hPb
          go_wp2_with fail
          go_roundw
          case rel => exact ⟨i + 1, d3, by omega, by go_num, rfl, HK3.out⟩
          case measure => simp [intOf]; omega
    · obtain rfl : i = q := by omega
      have x1 : ¬ (i : Int) < (i : Int) := by omega
      go_wp2_with fail
      go_loopw [56] (fun v56 wr => ∃ (k : Nat) (dk : Ext), k ≤ m ∧ v56 = .int .i64 (k : Int) ∧ wr = lay w [.inr dk] ∧ Kp P (bw w d) (bw w dk)) (fun v56 _ => m - (intOf v56).toNat)
      case atStart => exact ⟨0, dd, Nat.zero_le _, rfl, rfl, HK.out⟩
      case round =>
        obtain ⟨k, dk, hk, rfl, rfl, hK⟩ := hrel
        clear HK
        have HK := Lib.hid hK
        clear hK
        by_cases hkt : k < m
        · obtain ⟨t, htt⟩ : ∃ t, ls[k]? = some t := ⟨_, List.getElem?_eq_getElem (by rw [HM.out]; exact hkt)⟩
          obtain ⟨b2, o2, cap2, hv', hcc2, hb2, hr2⟩ := HS.out.open (by rw [HM.out]; omega)
          rw [HM.out] at hv' hcc2
          cases hv'
          have e0 := hr2 k t htt 0 _ rfl
          have hPb2 := HB.out b2 o2 m _ rfl (by omega)
          change (bw w d).cell? ⟨b2, o2 + k * 4, none⟩ = _ at e0
          obtain ⟨d3, w3, hK3⟩ := kp_set HP.out (i := o2 + k * 4) (v := .string ⟨#[121]⟩) hPb2 hb2 e0 ⟨_, rfl⟩ HK.out
          have HK3 := Lib.hid hK3
          have HW3 := Lib.hid w3
          obtain ⟨u0, g0, -⟩ := HK.out.cell b2 _ _ hb2 e0
          have f0 := (HK.out.froz b2 (o2 + k * 4) hb2).trans ((HP.out b2 hPb2).2 _)
          change (lay w [.inr dk]).cell? _ = _ at g0
          change (lay w [.inr dk]).frozen? _ = _ at f0
          have y1 : (k : Int) < (m : Int) := by omega
          have y0 : (0 : Int) ≤ (k : Int) := by omega
          clear htt hr2 hK3 e0 w3 hPb2
          go_wp2_with fail
          go_roundw
          case rel => exact ⟨k + 1, d3, by omega, by go_num, HW3.out, HK3.out⟩
          case measure => simp [intOf]; omega
        · obtain rfl : k = m := by omega
          have y1 : ¬ (k : Int) < (k : Int) := by omega
          go_wp2_with fail
          (try simp only [Exit.inBlock, Exit.then])
          refine bodyPost_ret (results_none rfl _ _ _) rfl ?_
          exact ⟨rfl, dk, rfl, HK.out⟩
end Go.Proofs.YtlkphcjlgbimkaaGreat
/- A nil book answers. -/
namespace Go.Proofs.YtlkphcjlgbimkaaGreat
open Go.RowKit

set_option maxRecDepth 100000 in
theorem nil_Bodies (w : World) : Calls Tryz.prog 33 #[.pointer none] w fun e w' => e = .returned (.slice none 0 0) ∧ ∃ d, w' = bw w d := by
  refine lay_start ?_
  go_enter Tryz.func33, Tryz.ntmps33
  go_wp2_with fail
  go_ret
  exact ⟨rfl, lay_ex _ _⟩
set_option maxRecDepth 100000 in
theorem nil_Pages (w : World) : Calls Tryz.prog 38 #[.pointer none] w fun e w' => e = .returned (.slice none 0 0) ∧ ∃ d, w' = bw w d := by
  refine lay_start ?_
  go_enter Tryz.func38, Tryz.ntmps38
  go_wp2_with fail
  go_ret
  exact ⟨rfl, lay_ex _ _⟩
set_option maxRecDepth 100000 in
theorem nil_Stars (w : World) : Calls Tryz.prog 41 #[.pointer none] w fun e w' => e = .returned (.slice none 0 0) ∧ ∃ d, w' = bw w d := by
  refine lay_start ?_
  go_enter Tryz.func41, Tryz.ntmps41
  go_wp2_with fail
  go_ret
  exact ⟨rfl, lay_ex _ _⟩
set_option maxRecDepth 100000 in
theorem nil_Covers (w : World) : Calls Tryz.prog 35 #[.pointer none, (.agg #[.int .i64 (0), .int .i64 (0)])] w fun e w' => e = .returned (.bool false) ∧ ∃ d, w' = bw w d := by
  refine lay_start ?_
  go_enter Tryz.func35, Tryz.ntmps35
  go_wp2_with fail
  refine region_bw (by kernel_rfl) (by kernel_rfl) ?_
  repeat (go_big_quiet_step ((first | fail)))
  refine wpQuiet_nil ?_
  rintro w' ⟨d, rfl⟩
  rw [lay_bw]
  go_wp2_with fail
  go_ret
  exact ⟨rfl, lay_ex _ _⟩
set_option maxRecDepth 100000 in
theorem nil_Where (s : ByteArray) (w : World) : Calls Tryz.prog 14 #[.pointer none, .string s, (.agg #[.int .i64 (0), .int .i64 (0)])] w fun e w' => e = .returned (.tuple #[gv g0, .int .i64 1]) ∧ ∃ d, w' = bw w d := by
  rw [gv_g0]
  refine lay_start ?_
  go_enter Tryz.func14, Tryz.ntmps14
  go_wp2_with fail
  exact bodyPost_ret (v := .tuple #[(.agg #[.int .i64 (0), .int .i64 (0), .int .i64 (0), .int .i64 (0), .int .i64 (0), .int .i64 (0), .int .i64 (0), .int .i64 (0)]), .int .i64 1]) (by simp [results, Tryz.results14, go_sem]) rfl ⟨rfl, lay_ex _ _⟩
set_option maxRecDepth 100000 in
theorem nil_Lha (s : ByteArray) (w : World) : Calls Tryz.prog 26 #[.pointer none, .string s, (.agg #[.int .i64 (0), .int .i64 (0)]), (.agg #[.int .i64 (0), .int .i64 (0)])] w fun e w' => e = .returned (.tuple #[(.agg #[.int .i64 (0), .int .i64 (0)]), .int .i64 1]) ∧ ∃ d, w' = bw w d := by
  refine lay_start ?_
  go_enter Tryz.func26, Tryz.ntmps26
  go_wp2_with fail
  exact bodyPost_ret (v := .tuple #[(.agg #[.int .i64 (0), .int .i64 (0)]), .int .i64 1]) (by simp [results, Tryz.results26, go_sem]) rfl ⟨rfl, lay_ex _ _⟩
set_option maxRecDepth 100000 in
theorem nil_Aries (w : World) : Calls Tryz.prog 16 #[.pointer none, (.agg #[.int .i64 (0), .int .i64 (0)])] w fun e w' => e = .returned (.tuple #[(.agg #[.int .i64 (0), .int .i64 (0)]), .int .i64 1]) ∧ ∃ d, w' = bw w d := by
  have HW := Lib.hid (fun s L => nil_Where s (lay w L))
  refine lay_start ?_
  go_enter Tryz.func16, Tryz.ntmps16
  go_wp2_with fail
  refine (HW.out _ _).mono ?_
  rintro e w' ⟨rfl, d, rfl⟩
  rw [gv_g0]
  go_wp2_with fail
  exact bodyPost_ret (v := .tuple #[(.agg #[.int .i64 (0), .int .i64 (0)]), .int .i64 1]) (by simp [results, Tryz.results16, go_sem]) rfl ⟨rfl, lay_ex _ _⟩
end Go.Proofs.YtlkphcjlgbimkaaGreat
/- AlmanacApart: the parts that are no walk. -/
namespace Go.Proofs.YtlkphcjlgbimkaaGreat
open Go.RowKit

theorem BkA.keep {w : World} {bk : Nat} {lp : List PgV} {ls : List StarV} {W W' : World} (h : BkA w bk lp ls W) (hs : W.heap.size ≤ W'.heap.size) (hk : ∀ b, w.heap.size ≤ b → b < W.heap.size → W'.heap[b]? = W.heap[b]?) : BkA w bk lp ls W' := by
  obtain ⟨h0, vd, vp, vs, h1, h2, h3, h4, h5, h6⟩ := h
  have hb := hk bk h0 h1.lt
  have hd : LsP (fun b => w.heap.size ≤ b ∧ b ≠ bk) W' vd (dysL lp) := (show LsP (fun b => w.heap.size ≤ b ∧ b ≠ bk) W vd (dysL lp) from ⟨h2, h3⟩).keep hs fun b hb => hk b hb.1
  exact ⟨h0, vd, vp, vs, ⟨Nat.lt_of_lt_of_le h1.lt hs, (cell_keep hb).trans h1.c0, (cell_keep hb).trans h1.c1, (cell_keep hb).trans h1.c2⟩, hd.1, h3, h4.keep hs fun b hb => hk b hb.1, slG_keep h5 h6 hs fun b hb => hk b hb.1, h6⟩
theorem made_PagesN {w : World} {bk : Nat} {lp : List PgV} {ls : List StarV} {W : World} (h : BkA w bk lp ls W) (k : NewOk lp ls) : Hid (∀ L, Calls Tryz.prog 38 #[.pointer (some ⟨bk, 0, none⟩)] (lay W L) (CpyPostN (lay W L) lp)) := by
  obtain ⟨vd, vp, vs, h1, h2⟩ := h.openB k
  exact Lib.hid (fun L => alm_PagesN bk vd vp vs lp (lay W L) (h1.lay L) (fun b hb => Nat.lt_of_lt_of_le hb (lay_extends W L).size))
/-- One list of track k is cloned and stored, the other one follows. -/
theorem cqI_half {P : Nat → Prop} {w0 : World} {g0 n cap : Nat} {l : List PgV} {i S g1 n1 c1 : Nat} {p : PgV} {k : Nat} {W : World} {ls : List PgW} {lt : List TkW}
    (h : CqI P w0 g0 n cap l i S (.slice (some ⟨g1, 0, none⟩) n1 c1) p k W ls lt) (hP : ∀ b, P b → b < w0.heap.size) (hS : w0.heap.size ≤ S) {x : TkW} {t : TrkV} (hx : lt[k]? = some x) (ht : p.ts[k]? = some t) (hg1 : S ≤ g1) (hg1W : g1 < W.heap.size)
    {d e : Ext} {A : Option Addr} {nA cA : Nat} (hA : LsP (fun b => W.heap.size ≤ b ∧ b < (bw W d).heap.size ∧ NF (bw W d) b) (bw W d) (.slice A nA cA) t.g) {W1 : World} (hW1 : W1 = bw ((bw W d).setCell ⟨g1, k * 6 + 1, none⟩ (.slice A nA cA)) e) :
    ∀ d' B nB cB, LsP (fun b => W1.heap.size ≤ b ∧ b < (bw W1 d').heap.size ∧ NF (bw W1 d') b) (bw W1 d') (.slice B nB cB) t.d →
      ∃ LT, CqI P w0 g0 n cap l i S (.slice (some ⟨g1, 0, none⟩) n1 c1) p (k + 1) ((bw W1 d').setCell ⟨g1, k * 6 + 2, none⟩ (.slice B nB cB)) ls LT := by
  intro d' B nB cB hB
  have hgd : g1 < (bw W d).heap.size := Nat.lt_of_lt_of_le hg1W (bw_le W d)
  have hgs : g1 < (bw (bw W d) e).heap.size := Nat.lt_of_lt_of_le hgd (bw_le _ e)
  obtain ⟨D1, hD1⟩ : ∃ D, bw (bw W d) e = bw W D := ⟨_, bw_bw _ _ _⟩
  obtain ⟨D, hD⟩ : ∃ D, bw (bw W D1) d' = bw W D := ⟨_, bw_bw _ _ _⟩
  have e1 : W1 = (bw W D1).setCell ⟨g1, k * 6 + 1, none⟩ (.slice A nA cA) := by rw [hW1, ← bw_setCell _ _ _ _ _ hgd, hD1]
  have e2 : bw W1 d' = (bw W D).setCell ⟨g1, k * 6 + 1, none⟩ (.slice A nA cA) := by rw [e1, ← bw_setCell _ _ _ _ _ (by rw [← hD1]; exact hgs), hD]
  have hz1 : W1.heap.size = (bw W D1).heap.size := by rw [e1, World.size_setCell]
  have hz2 : (bw W1 d').heap.size = (bw W D).heap.size := by rw [e2, World.size_setCell]
  have hle : W.heap.size ≤ W1.heap.size := by rw [hz1]; exact bw_le _ _
  have hdD : ∀ b, b < (bw W d).heap.size → (bw W D).heap[b]? = (bw W d).heap[b]? := fun b hb => by
    rw [← hD, ← hD1, bw_get _ _ _ (Nat.lt_of_lt_of_le hb (bw_le _ e)), bw_get _ _ _ hb]
  have hdz : (bw W d).heap.size ≤ (bw W D).heap.size := by rw [← hD, ← hD1]; exact Nat.le_trans (bw_le _ e) (bw_le _ d')
  have hfar : ∀ b, b ≠ g1 → (bw W D).heap[b]? = (bw W1 d').heap[b]? := fun b hb => by rw [e2]; exact (heap_set_other hb).symm
  have hA2 : LsP (fun b => W.heap.size ≤ b ∧ b < (bw W D).heap.size ∧ NF (bw W D) b) (bw W D) (.slice A nA cA) t.g :=
    (hA.keep hdz fun b hb _ => hdD b hb.2.1).mono fun b hb => ⟨hb.1, Nat.lt_of_lt_of_le hb.2.1 hdz, hb.2.2.of (hdD b hb.2.1)⟩
  have hB2 : LsP (fun b => W.heap.size ≤ b ∧ b < (bw W D).heap.size ∧ NF (bw W D) b) (bw W D) (.slice B nB cB) t.d :=
    (hB.keep (by rw [hz2]; exact Nat.le_refl _) fun b hb _ => hfar b (by omega)).mono fun b hb => ⟨by omega, by rw [← hz2]; exact hb.2.1, hb.2.2.of (hfar b (by omega))⟩
  rw [e2]
  exact ⟨_, h.step hP hS hx ht hg1 hg1W (d := D) hA2 hB2⟩
/-- The outer loop's state, a copy of no pages too. -/
def CqS (P : Nat → Prop) (w : World) (q : Nat) (l : List PgV) (i : Nat) (W : World) (v : Value) : Prop :=
  (q = 0 ∧ PgsD (fun b => w.heap.size ≤ b ∧ b < W.heap.size ∧ NF W b) W v l) ∨ (0 < q ∧ ∃ g0 cap ls, v = .slice (some ⟨g0, 0, none⟩) q cap ∧ w.heap.size ≤ g0 ∧ g0 < W.heap.size ∧ CqO P w g0 q cap l i W ls)
theorem CqS.start {P : Nat → Prop} {w W : World} {q : Nat} {l : List PgV} {v : Value} {ls : List PgW} {d : Ext} (h : OwG pgR (bw W d) W.heap.size v ls) (hw : w.heap.size ≤ W.heap.size) (hq : l.length = q) (hl : ls.length = q)
    (hD : ∀ (i : Nat) x p, ls[i]? = some x → l[i]? = some p → PgD P w x p) (hext : Below w.heap.size w (bw W d)) : CqS P w q l 0 (bw W d) v := by
  by_cases hz : q = 0
  · subst hz
    obtain rfl := List.eq_nil_of_length_eq_zero hq
    obtain rfl := List.eq_nil_of_length_eq_zero hl
    obtain ⟨a, c, rfl⟩ := h.form
    exact Or.inl ⟨rfl, [], h.sl pgOk, fun b o n c e hn => by cases e; exact absurd hn (Nat.lt_irrefl 0), rfl, fun i x p hx => by simp at hx⟩
  · obtain ⟨g0, cap, rfl, hg0, hgW, hcap⟩ := h.form1 (by omega)
    rw [hl] at h ⊢
    refine Or.inr ⟨by omega, g0, cap, ls, rfl, by omega, hgW, h.le hw, by rw [hl, hq], fun j x p hx hp => ⟨(hD j x p hx hp).y, (hD j x p hx hp).m, (hD j x p hx hp).d⟩, fun j x p _ _ hj => absurd hj (Nat.not_lt_zero j), fun j x p hx hp _ => (hD j x p hx hp).ts.keep hext.size fun b _ hb => hext.block b hb⟩
theorem owG_start0 {w : World} {dA d : Ext} {q : Nat} {l : List PgV} {v : Value} {ls : List PgW} (h : OwG pgR (bw (lay w [.inr dA]) d) (lay w [.inr dA]).heap.size v ls) (hq : l.length = q) (hl : ls.length = q)
    (hD : ∀ (i : Nat) x p, ls[i]? = some x → l[i]? = some p → PgD (InB w) w x p) : CqS (InB w) w q l 0 (bw (lay w [.inr dA]) d) v :=
  CqS.start h (bw_le w dA) hq hl hD (lay_extends w [.inr d, .inr dA])
theorem CqS.done {P : Nat → Prop} {w W : World} {q i : Nat} {l : List PgV} {v : Value} (h : CqS P w q l i W v) (hq : l.length = q) (hi : q ≤ i) : PgsD (fun b => w.heap.size ≤ b ∧ b < W.heap.size ∧ NF W b) W v l := by
  rcases h with ⟨_, h⟩ | ⟨_, g0, cap, ls, rfl, h1, h2, h3⟩
  · exact h
  · exact h3.done (by omega) h1 h2
theorem CqS.open {P : Nat → Prop} {w W : World} {q i : Nat} {l : List PgV} {v : Value} (h : CqS P w q l i W v) (hi : i < q) : ∃ g0 cap ls, v = .slice (some ⟨g0, 0, none⟩) q cap ∧ w.heap.size ≤ g0 ∧ g0 < W.heap.size ∧ CqO P w g0 q cap l i W ls := by
  rcases h with ⟨e, _⟩ | ⟨_, h⟩
  · omega
  · exact h
theorem lsN_bw {H : Nat} {W : World} {v : Value} {l : List Int} (h : LsP (fun b => H ≤ b ∧ b < W.heap.size ∧ NF W b) W v l) (e : Ext) : LsP (fun b => H ≤ b ∧ b < (bw W e).heap.size ∧ NF (bw W e) b) (bw W e) v l :=
  (h.bw e).mono fun _ hb => ⟨hb.1, Nat.lt_of_lt_of_le hb.2.1 (bw_le W e), hb.2.2.bw hb.2.1 e⟩
/-- Behind the first store of a track. -/
theorem half_out {P : Nat → Prop} {w : World} {dk dU e : Ext} {g0 g1 i k : Nat} {v u0 u1 vd : Value} {l : List Int} (hg : w.heap.size ≤ g1) (h0 : g0 < (lay w [.inr dk]).heap.size) (h1 : g1 < (lay w [.inr dk]).heap.size) (h01 : g0 < g1)
    (c5 : (lay w [.inr dk]).cell? ⟨g0, i * 4 + 3, none⟩ = some u0) (c7 : (lay w [.inr dk]).cell? ⟨g1, k * 6 + 2, none⟩ = some u1) (fz : (lay w [.inr dk]).frozen? ⟨g1, k * 6 + 2, none⟩ = false) (ht : LsP P (lay w [.inr dk]) vd l) (hP : ∀ b, P b → b < w.heap.size) :
    ∃ dY, bw ((bw (lay w [.inr dk]) dU).setCell ⟨g1, k * 6 + 1, none⟩ v) e = lay w [.inr dY] ∧ g0 < (lay w [.inr dY]).heap.size ∧ g1 < (lay w [.inr dY]).heap.size ∧ (lay w [.inr dY]).cell? ⟨g0, i * 4 + 3, none⟩ = some u0 ∧
      (lay w [.inr dY]).cell? ⟨g1, k * 6 + 2, none⟩ = some u1 ∧ (lay w [.inr dY]).frozen? ⟨g1, k * 6 + 2, none⟩ = false ∧ LsP P (lay w [.inr dY]) vd l := by
  obtain ⟨x, hx⟩ := bw_storeG (w := w) (d := ⟨dk.blocks ++ dU.blocks, dU.drawn⟩) (g := g1) (i := k * 6 + 1) (v := v) hg
  have e0 : bw (lay w [.inr dk]) dU = bw w ⟨dk.blocks ++ dU.blocks, dU.drawn⟩ := bw_bw w dk dU
  have hsz : (lay w [.inr dk]).heap.size ≤ ((bw (lay w [.inr dk]) dU).setCell ⟨g1, k * 6 + 1, none⟩ v).heap.size := by rw [World.size_setCell]; exact bw_le _ dU
  refine ⟨⟨x.blocks ++ e.blocks, e.drawn⟩, ?_, ?_⟩
  · rw [e0, hx]; exact bw_bw w x e
  have e1 : lay w [.inr ⟨x.blocks ++ e.blocks, e.drawn⟩] = bw ((bw (lay w [.inr dk]) dU).setCell ⟨g1, k * 6 + 1, none⟩ v) e := by rw [e0, hx]; exact (bw_bw w x e).symm
  rw [e1]
  have z0 := Nat.lt_of_lt_of_le h0 hsz
  have z1 := Nat.lt_of_lt_of_le h1 hsz
  refine ⟨Nat.lt_of_lt_of_le z0 (bw_le _ e), Nat.lt_of_lt_of_le z1 (bw_le _ e), ?_, ?_, ?_, ?_⟩
  · rw [bw_cell _ _ _ _ z0, World.cell?_setCell_other _ _ _ _ (fun h => by have := congrArg Addr.block h; simp at this; omega), bw_cell _ _ _ _ h0]; exact c5
  · rw [bw_cell _ _ _ _ z1, World.cell?_setCell_other _ _ _ _ (fun h => by have := congrArg Addr.off h; simp at this), bw_cell _ _ _ _ h1]; exact c7
  · rw [bw_frozen _ _ _ _ z1, World.frozen?_setCell, bw_frozen _ _ _ _ h1]; exact fz
  · refine ht.keep (Nat.le_trans hsz (bw_le _ e)) fun b hb _ => ?_
    rw [← e1]
    exact (lay_oldb w _ b (hP b hb)).trans (lay_oldb w _ b (hP b hb)).symm
theorem half_end {w : World} {dY dU e : Ext} {g0 g1 j : Nat} {v : Value} (hg : w.heap.size ≤ g1) (h0 : g0 < (lay w [.inr dY]).heap.size) (h1 : g1 < (lay w [.inr dY]).heap.size) :
    ∃ dZ, bw ((bw (lay w [.inr dY]) dU).setCell ⟨g1, j, none⟩ v) e = lay w [.inr dZ] ∧ g0 < (lay w [.inr dZ]).heap.size ∧ g1 < (lay w [.inr dZ]).heap.size := by
  obtain ⟨x, hx⟩ := bw_storeG (w := w) (d := ⟨dY.blocks ++ dU.blocks, dU.drawn⟩) (g := g1) (i := j) (v := v) hg
  have e0 : bw (lay w [.inr dY]) dU = bw w ⟨dY.blocks ++ dU.blocks, dU.drawn⟩ := bw_bw w dY dU
  have hsz : (lay w [.inr dY]).heap.size ≤ ((bw (lay w [.inr dY]) dU).setCell ⟨g1, j, none⟩ v).heap.size := by rw [World.size_setCell]; exact bw_le _ dU
  have e1 : lay w [.inr ⟨x.blocks ++ e.blocks, e.drawn⟩] = bw ((bw (lay w [.inr dY]) dU).setCell ⟨g1, j, none⟩ v) e := by rw [e0, hx]; exact (bw_bw w x e).symm
  refine ⟨_, e1.symm, ?_⟩
  rw [e1]
  exact ⟨Nat.lt_of_lt_of_le (Nat.lt_of_lt_of_le h0 hsz) (bw_le _ e), Nat.lt_of_lt_of_le (Nat.lt_of_lt_of_le h1 hsz) (bw_le _ e)⟩
/-- Blocks made since w that may be written. -/
def OwnP (w W : World) (b : Nat) : Prop := w.heap.size ≤ b ∧ b < W.heap.size ∧ NF W b
theorem ownP_ext {w W : World} {b : Nat} (d : Ext) (h : OwnP w W b) : OwnP w (bw W d) b := ⟨h.1, Nat.lt_of_lt_of_le h.2.1 (bw_le W d), h.2.2.bw h.2.1 d⟩
theorem ownP_pgs {w W : World} {v : Value} {l : List PgV} (h : PgsD (OwnP w W) W v l) (d : Ext) : PgsD (OwnP w (bw W d)) (bw W d) v l :=
  (h.keep (bw_le W d) fun b hb _ => bw_get W d b hb.2.1).mono fun _ hb => ownP_ext d hb
theorem owG_blkN {α : Type} {R : RecT α} {w W : World} {base : Nat} {v : Value} {l : List α} (h : OwG R W base v l) (hb : w.heap.size ≤ base) : Blk (OwnP w W) v := by
  intro b o n c e hn
  subst e
  obtain ⟨a, c', e⟩ := h.form
  cases e
  obtain ⟨g, c'', e, h1, h2, _⟩ := h.form1 hn
  cases e
  exact ⟨by omega, h2, NF.row h⟩
theorem BkA.kp {P : Nat → Prop} {w : World} {bk : Nat} {lp : List PgV} {ls : List StarV} {W W' : World} (h : BkA w bk lp ls W) (k : Kp P W W') (hP : ∀ b, w.heap.size ≤ b → b < W.heap.size → ¬ P b) : BkA w bk lp ls W' :=
  h.keep k.size fun b h1 h2 => k.far b h2 (hP b h1 h2)
/-- Over what was made since W, written, the book stays. -/
theorem bkA_since {w : World} {bk : Nat} {lp : List PgV} {ls : List StarV} {W W2 W' : World} {d : Ext} (h : BkA w bk lp ls W) (e : W2 = bw W d) (k : Kp (OwnP W W2) W2 W') : BkA w bk lp ls W' := by
  subst e
  exact h.kp (((Kp.refl (OwnP W (bw W d)) W).bw d).trans k) fun b _ hb hp => by
    rcases hp with hp | hp <;> exact absurd hp.1 (Nat.not_le_of_lt hb)
end Go.Proofs.YtlkphcjlgbimkaaGreat
/- The law's large, with what it says. -/
namespace Go.Proofs.YtlkphcjlgbimkaaGreat
open Go.RowKit Go.Shelf

/-- What is not large is small. -/
def LgPost (n m : Nat) (z : Bool) (w : World) (e : Ending) (w' : World) : Prop := ∃ r, e = .returned (.bool r) ∧ (r = false → n ≤ 50 ∧ m ≤ 120 ∧ z = false) ∧ ∃ d, w' = bw w d
theorem lgP_few {lp : List PgV} (h : lp.any lgP = false) : ∀ p ∈ lp, p.ts.length ≤ 6 ∧ ∀ t ∈ p.ts, t.g.length ≤ 40 ∧ t.d.length ≤ 40 := by
  intro p hp
  have h1 := List.any_eq_false.1 h p hp
  unfold lgP at h1
  simp only [Bool.or_eq_true, decide_eq_true_eq, not_or] at h1
  refine ⟨by omega, fun t ht => ?_⟩
  have h2 := List.any_eq_false.1 (Bool.eq_false_iff.2 h1.2) t ht
  unfold lgT at h2
  simp only [Bool.or_eq_true, decide_eq_true_eq, not_or] at h2
  omega
set_option maxHeartbeats 2000000 in
theorem law17_largeX {P : Nat → Prop} (vp vs : Value) (lp : List PgV) (l : List StarV) (w : World) (hp : PgsD P w vp lp) (hv : SlG stR w vs l) :
    Calls Tryz.prog 12 #[vp, vs] w (LgPost lp.length l.length (lp.any lgP) w) := by
  have eI : ∀ args w, (callFunc 58 args).run Tryz.prog w = .ok (.enter 58 args) w := enters_of Tryz.func58 (by kernel_rfl) rfl
  have HI := Lib.hid (fun L => st_ContainsFunc 58 [] (fun x => decide ((100 : Int) < (x.s.size : Int))) vs l (lay w L) (hv.lay L) eI (fun x _ d => (law17_large2 x (bw (lay w L) d)).mono fun e w' ⟨h1, d2, h2⟩ => ⟨h1, _, h2.trans (bw_bw _ _ _)⟩))
  have HP := Lib.hid (fun L => pgs_large vp lp (lay w L) (hp.lay L))
  generalize l.any (fun x => decide ((100 : Int) < (x.s.size : Int))) = y at *
  generalize lp.any lgP = z at *
  obtain ⟨a, c, rfl⟩ := hv.form
  obtain ⟨pa, pc, rfl⟩ := pgs_form hp
  generalize l.length = m at *
  generalize lp.length = n at *
  clear hv hp eI
  refine lay_start ?_
  go_enter Tryz.func12, Tryz.ntmps12
  go_wp2_with (first | (go_at_call 53; refine (HP.out _).mono ?_; rintro e w' ⟨rfl, d, rfl⟩) | (go_at_call 57; refine (HI.out _).mono ?_; rintro e w' ⟨rfl, d, rfl⟩))
  all_goals go_ret
  all_goals refine ⟨_, rfl, ?_, lay_ex _ _⟩
  all_goals (intro hr; first | (cases hr; done) | (simp at hr; done) | (refine ⟨by omega, by omega, ?_⟩; first | assumption | rfl | (cases z <;> simp_all; done)))
end Go.Proofs.YtlkphcjlgbimkaaGreat

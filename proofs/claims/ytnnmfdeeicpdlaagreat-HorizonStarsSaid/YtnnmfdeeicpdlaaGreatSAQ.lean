/- Contracts and plain laws, several texts in one: Cln2; Cpy0; Cpy; Nwa; Nwb; Bnd -/
import Derived.Test.YtnnmfdeeicpdlaaGreatProg
import Derived.WalkKit
import Derived.WalkSpells
import Derived.WalkLawsBesides
import Derived.Lib.Hide
import Derived.BigQuiet
import Derived.Test.YtnnmfdeeicpdlaaGreatSAA
import Derived.Test.YtnnmfdeeicpdlaaGreatSAD
import Derived.Test.YtnnmfdeeicpdlaaGreatSAL
import Derived.Test.YtnnmfdeeicpdlaaGreatSAN
import Derived.Test.YtnnmfdeeicpdlaaGreatSAO
import Derived.Test.YtnnmfdeeicpdlaaGreatSAP
/- slices.Clone at tracks, pages, ints. -/
namespace Go.Proofs.YtnnmfdeeicpdlaaGreat
set_option maxRecDepth 100000
open Go.RowKit

theorem cln_Track (v : Value) (l : List TkW) (w : World) (hv : SlG tkR w v l) (hn : l.length ≤ 1000000000) :
    Calls Tryz.prog 159 #[v] w (ClnPost tkR w l) := by
  unfold ClnPost
  by_cases hz : l = []
  · subst hz
    obtain ⟨a, c, rfl⟩ := hv.form
    cases a with
    | none =>
      refine lay_start ?_
      have qT : ∀ (w : World) (a : Option Addr) (n c : Nat), (binOp .eql 106 (.slice a n c) (.slice none 0 0)).run Tryz.prog w = .ok (.bool a.isNone) w := fun w a n c => Lib.run_eql_slice_nil w _ _ a n c 0 0 tkOk.und
      go_enter Tryz.func159, Tryz.ntmps159
      go_wp2_with fail
      go_ret
      exact ⟨_, noExt _, rfl, (bw_noExt _).symm, OwG.nil _ _ _⟩
    | some a =>
      refine lay_start ?_
      have HV := Lib.hid (fun L => hv.lay L)
      have qT : ∀ (w : World) (a : Option Addr) (n c : Nat), (binOp .eql 106 (.slice a n c) (.slice none 0 0)).run Tryz.prog w = .ok (.bool a.isNone) w := fun w a n c => Lib.run_eql_slice_nil w _ _ a n c 0 0 tkOk.und
      go_enter Tryz.func159, Tryz.ntmps159
      go_wp2_with (at_builtin; refine push_slG tkOk rfl _ _ rfl (lay w []) _ _ _ (some a) 0 c [] (lay_belowG (A := [_]) (B := [])) (owG_empty' _ (A := []) (B := []) (L := [])) (HV.out _) (fun h => by cases h) rfl rfl (by simp) ?_; intro v' d' hv')
      obtain ⟨va, vc, hve⟩ := hv'.form
      have H' := Lib.hid hv'
      subst hve
      clear hv'
      go_wp2_with fail
      go_ret
      exact ⟨_, d', rfl, rfl, H'.out⟩
  · obtain ⟨b, o, cap, rfl, hc, hb, hr⟩ := hv.open (List.length_pos_iff.2 hz)
    have HV := Lib.hid (fun L => hv.lay L)
    have HN := Lib.hid hn
    clear hr hv hz
    refine lay_start ?_
    have qT : ∀ (w : World) (a : Option Addr) (n c : Nat), (binOp .eql 106 (.slice a n c) (.slice none 0 0)).run Tryz.prog w = .ok (.bool a.isNone) w := fun w a n c => Lib.run_eql_slice_nil w _ _ a n c 0 0 tkOk.und
    go_enter Tryz.func159, Tryz.ntmps159
    go_wp2_with (at_builtin; refine push_slG tkOk rfl _ _ rfl (lay w []) _ _ [] (some ⟨b, o, none⟩) l.length cap l (lay_belowG (A := [_]) (B := [])) (owG_empty' _ (A := []) (B := []) (L := [])) (HV.out _) (fun h => by cases h) rfl rfl (by simpa using HN.out) ?_; intro v' d' hv')
    obtain ⟨va, vc, hve⟩ := hv'.form
    have H' := Lib.hid hv'
    subst hve
    clear hv'
    go_wp2_with fail
    go_ret
    exact ⟨_, d', rfl, rfl, H'.out⟩
theorem cln_Page (v : Value) (l : List PgW) (w : World) (hv : SlG pgR w v l) (hn : l.length ≤ 1000000000) :
    Calls Tryz.prog 158 #[v] w (ClnPost pgR w l) := by
  unfold ClnPost
  by_cases hz : l = []
  · subst hz
    obtain ⟨a, c, rfl⟩ := hv.form
    cases a with
    | none =>
      refine lay_start ?_
      have qT : ∀ (w : World) (a : Option Addr) (n c : Nat), (binOp .eql 94 (.slice a n c) (.slice none 0 0)).run Tryz.prog w = .ok (.bool a.isNone) w := fun w a n c => Lib.run_eql_slice_nil w _ _ a n c 0 0 pgOk.und
      go_enter Tryz.func158, Tryz.ntmps158
      go_wp2_with fail
      go_ret
      exact ⟨_, noExt _, rfl, (bw_noExt _).symm, OwG.nil _ _ _⟩
    | some a =>
      refine lay_start ?_
      have HV := Lib.hid (fun L => hv.lay L)
      have qT : ∀ (w : World) (a : Option Addr) (n c : Nat), (binOp .eql 94 (.slice a n c) (.slice none 0 0)).run Tryz.prog w = .ok (.bool a.isNone) w := fun w a n c => Lib.run_eql_slice_nil w _ _ a n c 0 0 pgOk.und
      go_enter Tryz.func158, Tryz.ntmps158
      go_wp2_with (at_builtin; refine push_slG pgOk rfl _ _ rfl (lay w []) _ _ _ (some a) 0 c [] (lay_belowG (A := [_]) (B := [])) (owG_empty' _ (A := []) (B := []) (L := [])) (HV.out _) (fun h => by cases h) rfl rfl (by simp) ?_; intro v' d' hv')
      obtain ⟨va, vc, hve⟩ := hv'.form
      have H' := Lib.hid hv'
      subst hve
      clear hv'
      go_wp2_with fail
      go_ret
      exact ⟨_, d', rfl, rfl, H'.out⟩
  · obtain ⟨b, o, cap, rfl, hc, hb, hr⟩ := hv.open (List.length_pos_iff.2 hz)
    have HV := Lib.hid (fun L => hv.lay L)
    have HN := Lib.hid hn
    clear hr hv hz
    refine lay_start ?_
    have qT : ∀ (w : World) (a : Option Addr) (n c : Nat), (binOp .eql 94 (.slice a n c) (.slice none 0 0)).run Tryz.prog w = .ok (.bool a.isNone) w := fun w a n c => Lib.run_eql_slice_nil w _ _ a n c 0 0 pgOk.und
    go_enter Tryz.func158, Tryz.ntmps158
    go_wp2_with (at_builtin; refine push_slG pgOk rfl _ _ rfl (lay w []) _ _ [] (some ⟨b, o, none⟩) l.length cap l (lay_belowG (A := [_]) (B := [])) (owG_empty' _ (A := []) (B := []) (L := [])) (HV.out _) (fun h => by cases h) rfl rfl (by simpa using HN.out) ?_; intro v' d' hv')
    obtain ⟨va, vc, hve⟩ := hv'.form
    have H' := Lib.hid hv'
    subst hve
    clear hv'
    go_wp2_with fail
    go_ret
    exact ⟨_, d', rfl, rfl, H'.out⟩
def ClnInt (w : World) (l : List Int) (e : Ending) (w' : World) : Prop := ∃ A n c d, e = .returned (.slice A n c) ∧ w' = bw w d ∧ LsP (fun b => w.heap.size ≤ b ∧ b < (bw w d).heap.size) (bw w d) (.slice A n c) l
theorem cln_Int {P : Nat → Prop} (v : Value) (l : List Int) (w : World) (h : LsP P w v l) (hl : l.length ≤ 1000000000) :
    Calls Tryz.prog 160 #[v] w (ClnInt w l) := by
  obtain ⟨hs, _⟩ := h
  by_cases hz : l = []
  · subst hz
    obtain ⟨a, c, rfl, -⟩ := hs
    cases a with
    | none =>
      refine (Tryz.slices_Clone_int_nil 0 c w).mono fun e w' ⟨h1, h2⟩ => ⟨none, 0, 0, noExt w, h1, by rw [bw_noExt]; exact h2, Sl.nil _, fun b o n c e hn => by cases e⟩
    | some a =>
      refine (Tryz.slices_Clone_int_zero a c w).mono fun e w' ⟨v', h1, h2, _, h4⟩ => ?_
      obtain ⟨d, rfl⟩ := bw_of h4
      have hO : Ow (bw w d) w.heap.size v' [] := ⟨h2, fun i hi => absurd hi (Nat.not_lt_zero i)⟩
      obtain ⟨a', c', rfl⟩ := hO.form
      exact ⟨_, _, _, d, h1, rfl, hO.sl, fun b o n c e hn => by cases e; exact absurd hn (Nat.lt_irrefl 0)⟩
  · obtain ⟨b, o, cap, rfl, hc, hw, _, hr⟩ := hs.open (List.length_pos_iff.2 hz)
    have := Tryz.slices_Clone_int b o l.length cap l w (Nat.le_refl _) (by omega) hr
    rw [List.take_length] at this
    refine this.mono fun e w' ⟨v', h1, h2, _, h4⟩ => ?_
    obtain ⟨d, rfl⟩ := bw_of h4
    have hO : Ow (bw w d) w.heap.size v' l := ⟨h2, hw⟩
    obtain ⟨g, c', rfl, h5, h6, _⟩ := hO.form1 (List.length_pos_iff.2 hz)
    exact ⟨_, _, _, d, h1, rfl, hO.sl, fun b o n c e _ => by cases e; exact ⟨h5, h6⟩⟩
end Go.Proofs.YtnnmfdeeicpdlaaGreat
/- Deep copies of pages: what holds while the copy is made. No function of the program. -/
namespace Go.Proofs.YtnnmfdeeicpdlaaGreat
open Go.RowKit

theorem owG_same {α : Type} {R : RecT α} {w w' : World} {base g n c : Nat} {l : List α} (h : OwG R w base (.slice (some ⟨g, 0, none⟩) n c) l) (hk : w'.heap[g]? = w.heap[g]?) : OwG R w' base (.slice (some ⟨g, 0, none⟩) n c) l := by
  refine ⟨⟨h.1.1, h.1.2.imp id ?_⟩, h.2⟩
  rintro ⟨g', cap, cur, e, h1, h2, h3⟩
  cases e
  exact ⟨g, c, cur, rfl, h1, hk.trans h2, h3⟩
theorem heap_set_other {w : World} {g i b : Nat} {v : Value} (h : b ≠ g) : (w.setCell ⟨g, i, none⟩ v).heap[b]? = w.heap[b]? := heap_setCell_other _ ⟨g, i, none⟩ b v h
structure CpO (P : Nat → Prop) (w0 : World) (g0 n cap : Nat) (l : List PgV) (i : Nat) (W : World) (ls : List PgW) : Prop where
  own : OwG pgR W w0.heap.size (.slice (some ⟨g0, 0, none⟩) n cap) ls
  len : ls.length = l.length
  sc : ∀ (j : Nat) x p, ls[j]? = some x → l[j]? = some p → x.y = p.y ∧ x.m = p.m ∧ x.d = p.d
  new : ∀ (j : Nat) x p, ls[j]? = some x → l[j]? = some p → j < i → TksD (fun b => w0.heap.size ≤ b ∧ b ≠ g0 ∧ b < W.heap.size) W (.slice x.ta x.tn x.tc) p.ts
  old : ∀ (j : Nat) x p, ls[j]? = some x → l[j]? = some p → i ≤ j → TksD P W (.slice x.ta x.tn x.tc) p.ts
structure CpI (P : Nat → Prop) (w0 : World) (g0 n cap : Nat) (l : List PgV) (i S : Nat) (v2 : Value) (p : PgV) (k : Nat) (W : World) (ls : List PgW) (lt : List TkW) : Prop where
  own : OwG pgR W w0.heap.size (.slice (some ⟨g0, 0, none⟩) n cap) ls
  len : ls.length = l.length
  sc : ∀ (j : Nat) x p, ls[j]? = some x → l[j]? = some p → x.y = p.y ∧ x.m = p.m ∧ x.d = p.d
  new : ∀ (j : Nat) x p, ls[j]? = some x → l[j]? = some p → j < i → TksD (fun b => w0.heap.size ≤ b ∧ b ≠ g0 ∧ b < S) W (.slice x.ta x.tn x.tc) p.ts
  old : ∀ (j : Nat) x p, ls[j]? = some x → l[j]? = some p → i < j → TksD P W (.slice x.ta x.tn x.tc) p.ts
  at_ : ∃ x, ls[i]? = some x ∧ v2 = .slice x.ta x.tn x.tc
  pg : l[i]? = some p
  sS : S ≤ W.heap.size
  gS : g0 < S
  row : OwG tkR W S v2 lt
  tlen : lt.length = p.ts.length
  tsc : ∀ (j : Nat) x t, lt[j]? = some x → p.ts[j]? = some t → x.s = t.s ∧ x.p = t.p ∧ x.q = t.q ∧ x.r = t.r
  tnew : ∀ (j : Nat) x t, lt[j]? = some x → p.ts[j]? = some t → j < k → LsP (fun b => S ≤ b ∧ b < W.heap.size ∧ ∀ g, v2.ownBlock = some g → b ≠ g) W (.slice x.ga x.gn x.gc) t.g ∧ LsP (fun b => S ≤ b ∧ b < W.heap.size ∧ ∀ g, v2.ownBlock = some g → b ≠ g) W (.slice x.da x.dn x.dc) t.d
  told : ∀ (j : Nat) x t, lt[j]? = some x → p.ts[j]? = some t → k ≤ j → LsP P W (.slice x.ga x.gn x.gc) t.g ∧ LsP P W (.slice x.da x.dn x.dc) t.d
theorem own_blk {g n c : Nat} : (Value.slice (some ⟨g, 0, none⟩) n c).ownBlock = some g := rfl
theorem CpI.done {P : Nat → Prop} {w0 : World} {g0 n cap : Nat} {l : List PgV} {i S : Nat} {v2 : Value} {p : PgV} {k : Nat} {W : World} {ls : List PgW} {lt : List TkW}
    (h : CpI P w0 g0 n cap l i S v2 p k W ls lt) (hk : p.ts.length ≤ k) (hS : w0.heap.size ≤ S) : CpO P w0 g0 n cap l (i + 1) W ls := by
  refine ⟨h.own, h.len, h.sc, fun j x q hx hq hj => ?_, fun j x q hx hq hj => h.old j x q hx hq (by omega)⟩
  by_cases e : j = i
  · subst e
    obtain ⟨x', hx', hv⟩ := h.at_
    rw [hx] at hx'
    cases hx'
    have hp := h.pg
    rw [hq] at hp
    cases hp
    rw [← hv]
    refine ⟨lt, h.row.sl tkOk, ?_, h.tlen, fun j2 y t hy ht => ?_⟩
    · intro b o n' c e hn
      have hform := h.row
      have hlen : 0 < lt.length := by
        obtain ⟨a, c', e'⟩ := hform.form
        rw [e] at e'
        cases e'
        exact hn
      obtain ⟨g, c', e', h1, h2, _⟩ := hform.form1 hlen
      rw [e] at e'
      cases e'
      have := h.gS
      exact ⟨by omega, by omega, h2⟩
    · have hj2 : j2 < k := by have := (List.getElem?_eq_some_iff.1 ht).1; omega
      obtain ⟨s1, s2, s3, s4⟩ := h.tsc j2 y t hy ht
      obtain ⟨t1, t2⟩ := h.tnew j2 y t hy ht hj2
      have := h.gS
      exact ⟨s1, t1.mono fun b hb => ⟨by omega, by omega, hb.2.1⟩, t2.mono fun b hb => ⟨by omega, by omega, hb.2.1⟩, s2, s3, s4⟩
  · exact (h.new j x q hx hq (by omega)).mono fun _ hb => ⟨hb.1, hb.2.1, Nat.lt_of_lt_of_le hb.2.2 h.sS⟩
theorem CpO.enter {P : Nat → Prop} {w0 : World} {g0 n cap : Nat} {l : List PgV} {i : Nat} {W : World} {ls : List PgW} (h : CpO P w0 g0 n cap l i W ls) (hP : ∀ b, P b → b < w0.heap.size) {x : PgW} {p : PgV}
    (hx : ls[i]? = some x) (hp : l[i]? = some p) {d : Ext} {a2 : Option Addr} {n2 c2 : Nat} {lt : List TkW} (hg : w0.heap.size ≤ g0) (hgW : g0 < W.heap.size)
    (hlt : SlG tkR W (.slice x.ta x.tn x.tc) lt) (hlen : lt.length = p.ts.length) (hD : ∀ (j : Nat) y t, lt[j]? = some y → p.ts[j]? = some t → TkD P W y t)
    (hrow : OwG tkR (bw W d) W.heap.size (.slice a2 n2 c2) lt) :
    CpI P w0 g0 n cap l i W.heap.size (.slice a2 n2 c2) p 0 ((bw W d).setCell ⟨g0, i * 4 + 3, none⟩ (.slice a2 n2 c2)) (ls.set i { x with ta := a2, tn := n2, tc := c2 }) lt := by
  have hil : i < ls.length := (List.getElem?_eq_some_iff.1 hx).1
  have hsz : ((bw W d).setCell ⟨g0, i * 4 + 3, none⟩ (.slice a2 n2 c2)).heap.size = (bw W d).heap.size := World.size_setCell _ _ _
  have hle := bw_le W d
  have hne : ∀ b, b ≠ g0 → b < W.heap.size → ((bw W d).setCell ⟨g0, i * 4 + 3, none⟩ (.slice a2 n2 c2)).heap[b]? = W.heap[b]? := fun b hb hlt => (heap_set_other hb).trans (bw_get W d b hlt)
  have hset : ∀ (j : Nat) y, (ls.set i { x with ta := a2, tn := n2, tc := c2 })[j]? = some y → j ≠ i → ls[j]? = some y := fun j y hy hj => by
    rw [List.getElem?_set_ne (by omega)] at hy; exact hy
  refine ⟨?_, by rw [List.length_set]; exact h.len, fun j y q hy hq => ?_, fun j y q hy hq hj => ?_, fun j y q hy hq hj => ?_, ⟨_, by rw [List.getElem?_set_self hil], rfl⟩, hp, by rw [hsz]; exact hle, hgW, ?_, hlen,
    fun j y t hy ht => ⟨(hD j y t hy ht).s, (hD j y t hy ht).p, (hD j y t hy ht).q, (hD j y t hy ht).r⟩, fun j y t hy ht hj => absurd hj (Nat.not_lt_zero j), fun j y t hy ht _ => ?_⟩
  · exact owG_store pgOk (h.own.bw d) (j := 3) hx (by decide) rfl (h.own.2 x (List.mem_of_getElem? hx))
  · by_cases e : j = i
    · subst e
      rw [List.getElem?_set_self hil] at hy
      cases hy
      exact h.sc j x q hx hq
    · exact h.sc j y q (hset j y hy e) hq
  · refine (h.new j y q (hset j y hy (by omega)) hq hj).keep (by rw [hsz]; exact hle) fun b hb hb2 => hne b hb.2.1 hb2
  · refine (h.old j y q (hset j y hy (by omega)) hq (by omega)).keep (by rw [hsz]; exact hle) fun b hb hb2 => hne b (by have := hP b hb; omega) hb2
  · by_cases hz : lt = []
    · subst hz
      rcases hrow.1.2 with ⟨e, hz⟩ | ⟨g, cap', cur, e, h1, h2, h3⟩
      · rw [e]; exact OwG.nil _ _ _
      · rw [e] at hrow ⊢
        exact owG_same hrow (heap_set_other (by omega))
    · obtain ⟨g, c', e, h1, _⟩ := hrow.form1 (List.length_pos_iff.2 hz)
      rw [e] at hrow ⊢
      exact owG_same hrow (heap_set_other (by omega))
  · have hk := hD j y t hy ht
    exact ⟨hk.g.keep (by rw [hsz]; exact hle) fun b hb hb2 => hne b (by have := hP b hb; omega) hb2, hk.d.keep (by rw [hsz]; exact hle) fun b hb hb2 => hne b (by have := hP b hb; omega) hb2⟩
theorem CpI.step {P : Nat → Prop} {w0 : World} {g0 n cap : Nat} {l : List PgV} {i S g1 n1 c1 : Nat} {p : PgV} {k : Nat} {W : World} {ls : List PgW} {lt : List TkW}
    (h : CpI P w0 g0 n cap l i S (.slice (some ⟨g1, 0, none⟩) n1 c1) p k W ls lt) (hP : ∀ b, P b → b < w0.heap.size) (hS : w0.heap.size ≤ S) {x : TkW} {t : TrkV} (hx : lt[k]? = some x) (ht : p.ts[k]? = some t) (hg1 : S ≤ g1) (hg1W : g1 < W.heap.size)
    {d : Ext} {A B : Option Addr} {nA cA nB cB : Nat}
    (hA : LsP (fun b => W.heap.size ≤ b ∧ b < (bw W d).heap.size) (bw W d) (.slice A nA cA) t.g) (hB : LsP (fun b => W.heap.size ≤ b ∧ b < (bw W d).heap.size) (bw W d) (.slice B nB cB) t.d) :
    CpI P w0 g0 n cap l i S (.slice (some ⟨g1, 0, none⟩) n1 c1) p (k + 1) (((bw W d).setCell ⟨g1, k * 6 + 1, none⟩ (.slice A nA cA)).setCell ⟨g1, k * 6 + 2, none⟩ (.slice B nB cB)) ls (lt.set k { x with ga := A, gn := nA, gc := cA, da := B, dn := nB, dc := cB }) := by
  have hkl : k < lt.length := (List.getElem?_eq_some_iff.1 hx).1
  obtain ⟨W2, hW2⟩ : ∃ W2, W2 = ((bw W d).setCell ⟨g1, k * 6 + 1, none⟩ (.slice A nA cA)).setCell ⟨g1, k * 6 + 2, none⟩ (.slice B nB cB) := ⟨_, rfl⟩
  have hsz : W2.heap.size = (bw W d).heap.size := by rw [hW2, World.size_setCell, World.size_setCell]
  have hle := bw_le W d
  have hfar : ∀ b, b ≠ g1 → W2.heap[b]? = (bw W d).heap[b]? := fun b hb => by rw [hW2]; exact (heap_set_other hb).trans (heap_set_other hb)
  have hne : ∀ b, b ≠ g1 → b < W.heap.size → W2.heap[b]? = W.heap[b]? := fun b hb hlt => (hfar b hb).trans (bw_get W d b hlt)
  have hgS := h.gS
  have hrow : OwG tkR W2 S (.slice (some ⟨g1, 0, none⟩) n1 c1) (lt.set k { x with ga := A, gn := nA, gc := cA, da := B, dn := nB, dc := cB }) := by
    have r1 := owG_store tkOk (h.row.bw d) (j := 1) (y := { x with ga := A, gn := nA, gc := cA }) (u := .slice A nA cA) hx (by decide) rfl (h.row.2 x (List.mem_of_getElem? hx))
    have r2 := owG_store tkOk r1 (i := k) (j := 2) (x := { x with ga := A, gn := nA, gc := cA }) (y := { x with ga := A, gn := nA, gc := cA, da := B, dn := nB, dc := cB }) (u := .slice B nB cB) (by rw [List.getElem?_set_self hkl]) (by decide) rfl (h.row.2 x (List.mem_of_getElem? hx))
    rw [List.set_set] at r2
    rw [hW2]; exact r2
  rw [← hW2]
  have hset : ∀ (j : Nat) y, (lt.set k { x with ga := A, gn := nA, gc := cA, da := B, dn := nB, dc := cB })[j]? = some y → j ≠ k → lt[j]? = some y := fun j y hy hj => by
    rw [List.getElem?_set_ne (by omega)] at hy; exact hy
  have fresh : ∀ {v : Value} {m : List Int}, LsP (fun b => W.heap.size ≤ b ∧ b < (bw W d).heap.size) (bw W d) v m → LsP (fun b => S ≤ b ∧ b < W2.heap.size ∧ ∀ g, (Value.slice (some ⟨g1, 0, none⟩) n1 c1).ownBlock = some g → b ≠ g) W2 v m := fun hv => by
    have h1 := hv.keep (w' := W2) (by rw [hsz]; exact Nat.le_refl _) fun b hb _ => hfar b (by omega)
    exact h1.mono fun b hb => ⟨by have := h.sS; omega, by rw [hsz]; exact hb.2, fun g e => by rw [own_blk] at e; cases e; omega⟩
  refine ⟨?_, h.len, h.sc, fun j y q hy hq hj => ?_, fun j y q hy hq hj => ?_, h.at_, h.pg, by rw [hsz]; have := h.sS; omega, hgS, hrow, by rw [List.length_set]; exact h.tlen, fun j y q hy hq => ?_, fun j y q hy hq hj => ?_, fun j y q hy hq hj => ?_⟩
  · exact owG_same (h.own.bw d) (hfar g0 (by omega))
  · exact (h.new j y q hy hq hj).keep (by rw [hsz]; exact hle) fun b hb hb2 => hne b (by omega) hb2
  · exact (h.old j y q hy hq hj).keep (by rw [hsz]; exact hle) fun b hb hb2 => hne b (by have := hP b hb; omega) hb2
  · by_cases e : j = k
    · subst e
      rw [List.getElem?_set_self hkl] at hy
      cases hy
      exact h.tsc j x q hx hq
    · exact h.tsc j y q (hset j y hy e) hq
  · by_cases e : j = k
    · subst e
      rw [List.getElem?_set_self hkl] at hy
      cases hy
      rw [ht] at hq
      cases hq
      exact ⟨fresh hA, fresh hB⟩
    · obtain ⟨t1, t2⟩ := h.tnew j y q (hset j y hy e) hq (by omega)
      have kp : ∀ {v : Value} {m : List Int}, LsP (fun b => S ≤ b ∧ b < W.heap.size ∧ ∀ g, (Value.slice (some ⟨g1, 0, none⟩) n1 c1).ownBlock = some g → b ≠ g) W v m → LsP (fun b => S ≤ b ∧ b < W2.heap.size ∧ ∀ g, (Value.slice (some ⟨g1, 0, none⟩) n1 c1).ownBlock = some g → b ≠ g) W2 v m := fun hv =>
        (hv.keep (w' := W2) (by rw [hsz]; exact hle) fun b hb hb2 => hne b (hb.2.2 g1 rfl) hb2).mono fun b hb => ⟨hb.1, by rw [hsz]; omega, hb.2.2⟩
      exact ⟨kp t1, kp t2⟩
  · obtain ⟨t1, t2⟩ := h.told j y q (hset j y hy (by omega)) hq (by omega)
    exact ⟨t1.keep (by rw [hsz]; exact hle) fun b hb hb2 => hne b (by have := hP b hb; omega) hb2, t2.keep (by rw [hsz]; exact hle) fun b hb hb2 => hne b (by have := hP b hb; omega) hb2⟩
theorem CpO.bw {P : Nat → Prop} {w0 : World} {g0 n cap : Nat} {l : List PgV} {i : Nat} {W : World} {ls : List PgW} (h : CpO P w0 g0 n cap l i W ls) (d : Ext) : CpO P w0 g0 n cap l i (bw W d) ls :=
  ⟨h.own.bw d, h.len, h.sc, fun j x p hx hp hj => ((h.new j x p hx hp hj).keep (bw_le W d) fun b _ hb => bw_get W d b hb).mono fun _ hb => ⟨hb.1, hb.2.1, Nat.lt_of_lt_of_le hb.2.2 (bw_le W d)⟩,
    fun j x p hx hp hj => (h.old j x p hx hp hj).keep (bw_le W d) fun b _ hb => bw_get W d b hb⟩
theorem CpI.bw {P : Nat → Prop} {w0 : World} {g0 n cap : Nat} {l : List PgV} {i S : Nat} {v2 : Value} {p : PgV} {k : Nat} {W : World} {ls : List PgW} {lt : List TkW} (h : CpI P w0 g0 n cap l i S v2 p k W ls lt) (d : Ext) : CpI P w0 g0 n cap l i S v2 p k (bw W d) ls lt :=
  ⟨h.own.bw d, h.len, h.sc, fun j x p hx hp hj => (h.new j x p hx hp hj).keep (bw_le W d) fun b _ hb => bw_get W d b hb, fun j x p hx hp hj => (h.old j x p hx hp hj).keep (bw_le W d) fun b _ hb => bw_get W d b hb, h.at_, h.pg,
    Nat.le_trans h.sS (bw_le W d), h.gS, h.row.bw d, h.tlen, h.tsc, fun j x t hx ht hj => ⟨((h.tnew j x t hx ht hj).1.keep (bw_le W d) fun b _ hb => bw_get W d b hb).mono fun _ hb => ⟨hb.1, Nat.lt_of_lt_of_le hb.2.1 (bw_le W d), hb.2.2⟩,
      ((h.tnew j x t hx ht hj).2.keep (bw_le W d) fun b _ hb => bw_get W d b hb).mono fun _ hb => ⟨hb.1, Nat.lt_of_lt_of_le hb.2.1 (bw_le W d), hb.2.2⟩⟩,
    fun j x t hx ht hj => ⟨(h.told j x t hx ht hj).1.keep (bw_le W d) fun b _ hb => bw_get W d b hb, (h.told j x t hx ht hj).2.keep (bw_le W d) fun b _ hb => bw_get W d b hb⟩⟩
theorem LsP.bw {P : Nat → Prop} {w : World} {v : Value} {l : List Int} (h : LsP P w v l) (d : Ext) : LsP P (bw w d) v l := h.keep (bw_le w d) fun b _ hb => bw_get w d b hb
theorem CpO.done {P : Nat → Prop} {w0 : World} {g0 n cap : Nat} {l : List PgV} {i : Nat} {W : World} {ls : List PgW} (h : CpO P w0 g0 n cap l i W ls) (hi : l.length ≤ i) (hg : w0.heap.size ≤ g0) : PgsD (fun b => w0.heap.size ≤ b) W (.slice (some ⟨g0, 0, none⟩) n cap) l := by
  refine ⟨ls, h.own.sl pgOk, fun b o n c e hn => by cases e; exact hg, h.len, fun j x p hx hp => ?_⟩
  obtain ⟨s1, s2, s3⟩ := h.sc j x p hx hp
  exact ⟨s1, s2, s3, (h.new j x p hx hp (by have := (List.getElem?_eq_some_iff.1 hp).1; omega)).mono fun _ hb => hb.1⟩
end Go.Proofs.YtnnmfdeeicpdlaaGreat
/- almanac.copied: a deep copy of pages. -/
namespace Go.Proofs.YtnnmfdeeicpdlaaGreat
open Go.RowKit

def CpyPost (w : World) (l : List PgV) (e : Ending) (w' : World) : Prop := ∃ A c d, e = .returned (.slice A l.length c) ∧ w' = bw w d ∧ PgsD (fun b => w.heap.size ≤ b) (bw w d) (.slice A l.length c) l
theorem lsP_on {P : Nat → Prop} {w : World} {v : Value} {l : List Int} {A B : List (Obj ⊕ Ext)} (h : LsP P (lay w B) v l) : LsP P (lay w (A ++ B)) v l := h.keep lay_belowG.size fun b _ hb => lay_belowG.block b hb
theorem PgsD.form {P : Nat → Prop} {w : World} {v : Value} {l : List PgV} (h : PgsD P w v l) : ∃ a cap, v = .slice a l.length cap := by
  obtain ⟨ls, h1, h2, h3, h4⟩ := h
  obtain ⟨a, c, e⟩ := h1.form
  exact ⟨a, c, by rw [e, h3]⟩
set_option maxHeartbeats 4000000 in
set_option maxRecDepth 100000 in
theorem alm_copied {P : Nat → Prop} (v : Value) (l : List PgV) (w : World) (hv : PgsD P w v l) (hP : ∀ b, P b → b < w.heap.size) (hl : l.length ≤ 1000) (ht : ∀ p ∈ l, p.ts.length ≤ 1000) (hg : ∀ p ∈ l, ∀ t ∈ p.ts, t.g.length ≤ 1000 ∧ t.d.length ≤ 1000) :
    Calls Tryz.prog 67 #[v] w (CpyPost w l) := by
  obtain ⟨ls, h1, h2, h3, h4⟩ := hv
  have HC := Lib.hid (cln_Page v ls w h1 (by omega))
  by_cases hz : l = []
  · subst hz
    have hls : ls = [] := List.eq_nil_of_length_eq_zero h3
    subst hls
    obtain ⟨a, c, rfl⟩ := h1.form
    clear h1 h2 h4 hg ht hl h3 hP
    refine lay_start ?_
    go_enter Tryz.func67, Tryz.ntmps67
    go_wp2_with fail
    refine HC.out.mono ?_
    rintro e w' ⟨v', d1, rfl, rfl, hO⟩
    have HS := Lib.hid (hO.sl pgOk)
    obtain ⟨va, vc, rfl⟩ := hO.form
    clear hO
    go_wp2_with fail
    refine wp_loop_rounds 1 ?_
    rw [rounds_succ]
    go_wp2
    go_ret
    exact ⟨va, vc, d1, rfl, rfl, [], HS.out, fun b o n c e hn => by cases e; exact absurd hn (Nat.lt_irrefl 0), rfl, fun i x p hx => by simp at hx⟩
  · have hl0 : 0 < ls.length := by rw [h3]; exact List.length_pos_iff.2 hz
    obtain ⟨q, hq⟩ : ∃ q, l.length = q := ⟨_, rfl⟩
    have HQ := Lib.hid hq
    have HP := Lib.hid hP
    have HT := Lib.hid ht
    have HG := Lib.hid hg
    have HD := Lib.hid h4
    have HL3 := Lib.hid h3
    obtain ⟨a, c, rfl⟩ := h1.form
    have hq0 : 0 < q := by omega
    have hq1 : q ≤ 1000 := by omega
    have e3 : ls.length = q := by omega
    have HE := Lib.hid e3
    rw [e3] at HC ⊢
    clear h1 h2 h4 hg ht hl h3 hP hq hz hl0 e3
    refine lay_start ?_
    go_enter Tryz.func67, Tryz.ntmps67
    go_wp2_with fail
    refine HC.out.mono ?_
    rintro e w' ⟨v', d1, rfl, rfl, hO⟩
    obtain ⟨g0, cap, rfl, hg0, hgW, hcap⟩ := hO.form1 (by rw [HE.out]; exact hq0)
    rw [HE.out] at hO hcap ⊢
    have HO0 : Hid (CpO P w g0 q cap l 0 (lay w [.inr d1]) ls) := Lib.hid ⟨hO, HL3.out, fun j x p hx hp => ⟨(HD.out j x p hx hp).y, (HD.out j x p hx hp).m, (HD.out j x p hx hp).d⟩, fun j x p _ _ hj => absurd hj (Nat.not_lt_zero j), fun j x p hx hp _ => (HD.out j x p hx hp).ts.lay [.inr d1]⟩
    clear hO
    go_wp2_with fail
    go_loopw [11] (fun v11 wr => ∃ (i : Nat) (dd : Ext), i ≤ q ∧ v11 = .int .i64 (i : Int) ∧ wr = lay w [.inr dd] ∧ g0 < (lay w [.inr dd]).heap.size ∧ ∃ ls', CpO P w g0 q cap l i (lay w [.inr dd]) ls') (fun v11 _ => q - (intOf v11).toNat)
    case atStart => exact ⟨0, d1, Nat.zero_le _, rfl, rfl, hgW, ls, HO0.out⟩
    case round =>
      obtain ⟨i, dd, hi, rfl, rfl, hgd, ls', hO⟩ := hrel
      have HO := Lib.hid hO
      clear hO
      by_cases hlt : i < q
      · obtain ⟨p, hp⟩ : ∃ p, l[i]? = some p := ⟨_, List.getElem?_eq_getElem (by rw [HQ.out]; exact hlt)⟩
        obtain ⟨x, hx⟩ : ∃ x, ls'[i]? = some x := ⟨_, List.getElem?_eq_getElem (by rw [HO.out.len, HQ.out]; exact hlt)⟩
        obtain ⟨lt, k1, k2, k3, k4⟩ := HO.out.old i x p hx hp (Nat.le_refl i)
        have hpm : p ∈ l := List.mem_of_getElem? hp
        have htn := HT.out p hpm
        have HCt := Lib.hid (cln_Track _ lt _ k1 (by omega))
        have HEn := Lib.hid (fun d a2 n2 c2 hrow => HO.out.enter HP.out hx hp (d := d) (a2 := a2) (n2 := n2) (c2 := c2) hg0 hgd k1 k3 k4 hrow)
        have c3 := HO.out.own.cell pgOk hx (j := 3) (u := .slice x.ta x.tn x.tc) rfl
        have f3 := HO.out.own.froz (i * 4 + 3)
        change (lay w [.inr dd]).cell? ⟨g0, i * 4 + 3, none⟩ = _ at c3
        have x1 : (i : Int) < (q : Int) := by omega
        have x0 : (0 : Int) ≤ (i : Int) := by omega
        have HGt := Lib.hid (HG.out p hpm)
        obtain ⟨nt, hnt⟩ : ∃ nt, p.ts.length = nt := ⟨_, rfl⟩
        have HNt := Lib.hid hnt
        rw [hnt] at htn
        have hltn : lt.length = nt := by rw [k3, hnt]
        have HLt := Lib.hid hltn
        clear k1 k2 k3 k4 hpm hx hp hnt hltn
        generalize x.ta = xa at *
        generalize x.tn = xn at *
        generalize x.tc = xc at *
        go_wp2_with fail
        refine HCt.out.mono ?_
        rintro e w' ⟨v2, d2, rfl, rfl, hO2⟩
        obtain ⟨a2, c2, rfl⟩ := hO2.form
        rw [HLt.out] at hO2 ⊢
        have hE := HEn.out d2 a2 nt c2 hO2
        have f4 : (bw (lay w [.inr dd]) d2).frozen? ⟨g0, i * 4 + 3, none⟩ = false := by rw [bw_frozen _ _ _ _ hgd]; exact f3
        obtain ⟨d3, hd3⟩ := bw_storeG (w := w) (d := ⟨dd.blocks ++ d2.blocks, d2.drawn⟩) (g := g0) (i := i * 4 + 3) (v := .slice a2 nt c2) hg0
        have hww : bw (lay w [.inr dd]) d2 = bw w ⟨dd.blocks ++ d2.blocks, d2.drawn⟩ := bw_bw w dd d2
        have c4 : (bw (lay w [.inr dd]) d2).cell? ⟨g0, i * 4 + 3, none⟩ = some (.slice xa xn xc) := (bw_cell _ _ _ _ hgd).trans c3
        rw [hww] at f4 c4 ⊢
        rw [hww, hd3] at hE
        have HEt := Lib.hid hE
        obtain ⟨y, hy, hyv⟩ := hE.at_
        have c5 := hE.own.cell pgOk hy (j := 3) (u := .slice y.ta y.tn y.tc) rfl
        rw [← hyv] at c5
        change (bw w d3).cell? ⟨g0, i * 4 + 3, none⟩ = _ at c5
        have hgd3 : g0 < (bw w d3).heap.size := Nat.lt_of_lt_of_le hE.gS hE.sS
        have hS0 : w.heap.size ≤ (lay w [.inr dd]).heap.size := bw_le w dd
        clear hE hy hyv
        by_cases hn0 : nt = 0
        · subst hn0
          have HDn := Lib.hid (HEt.out.done (by rw [HNt.out]; exact Nat.le_refl _) hS0)
          go_wp2_with fail
          refine wp_loop_rounds 1 ?_
          rw [rounds_succ]
          go_wp2_with fail
          go_roundw
          case rel => exact ⟨i + 1, d3, by omega, by go_num, rfl, hgd3, _, HDn.out⟩
          case measure => simp [intOf]; omega
        · obtain ⟨g1, c2', hgg, hg1, hg1W, hcap2⟩ := hO2.form1 (by rw [HLt.out]; omega)
          rw [HLt.out] at hgg
          cases hgg
          obtain ⟨LS, hLS⟩ : ∃ LS, ls'.set i { x with ta := some ⟨g1, 0, none⟩, tn := nt, tc := c2 } = LS := ⟨_, rfl⟩
          obtain ⟨S, hSe⟩ : ∃ S, (lay w [.inr dd]).heap.size = S := ⟨_, rfl⟩
          have HE1 : Hid (CpI P w g0 q cap l i S (.slice (some ⟨g1, 0, none⟩) nt c2) p 0 (bw w d3) LS lt) := Lib.hid (by rw [← hLS, ← hSe]; exact HEt.out)
          have hg1d3 : g1 < (bw w d3).heap.size := by rw [← hd3, World.size_setCell, ← hww]; exact hg1W
          rw [hSe] at hS0 hg1
          clear HEt HEn hLS hSe hO2
          go_wp2_with fail
          clear hd3 hww f3 f4 c3 c4 c5
          go_loopw [30] (fun v30 wr => ∃ (k : Nat) (dk : Ext), k ≤ nt ∧ v30 = .int .i64 (k : Int) ∧ wr = lay w [.inr dk] ∧ g0 < (lay w [.inr dk]).heap.size ∧ g1 < (lay w [.inr dk]).heap.size ∧ ∃ lt', CpI P w g0 q cap l i S (.slice (some ⟨g1, 0, none⟩) nt c2) p k (lay w [.inr dk]) LS lt') (fun v30 _ => nt - (intOf v30).toNat)
          case atStart => exact ⟨0, d3, Nat.zero_le _, rfl, rfl, hgd3, hg1d3, lt, HE1.out⟩
          case round =>
            obtain ⟨k, dk, hk, rfl, rfl, gk0, gk1, lt', hI⟩ := hrel
            have HI := Lib.hid hI
            clear hI
            by_cases hkt : k < nt
            · obtain ⟨t, htt⟩ : ∃ t, p.ts[k]? = some t := ⟨_, List.getElem?_eq_getElem (by rw [HNt.out]; exact hkt)⟩
              obtain ⟨z, hzz⟩ : ∃ z, lt'[k]? = some z := ⟨_, List.getElem?_eq_getElem (by rw [HI.out.tlen, HNt.out]; exact hkt)⟩
              obtain ⟨y, hy, hyv⟩ := HI.out.at_
              have c5 := HI.out.own.cell pgOk hy (j := 3) (u := .slice y.ta y.tn y.tc) rfl
              rw [← hyv] at c5
              change (lay w [.inr dk]).cell? ⟨g0, i * 4 + 3, none⟩ = _ at c5
              have c6 : (lay w [.inr dk]).cell? ⟨g1, k * 6 + 1, none⟩ = some (.slice z.ga z.gn z.gc) := HI.out.row.cell tkOk hzz (j := 1) rfl
              have c7 : (lay w [.inr dk]).cell? ⟨g1, k * 6 + 2, none⟩ = some (.slice z.da z.dn z.dc) := HI.out.row.cell tkOk hzz (j := 2) rfl
              have c6q : ∀ d, (lay w [.inr d, .inr dk]).cell? ⟨g1, k * 6 + 1, none⟩ = some (.slice z.ga z.gn z.gc) := fun d => (bw_cell _ d _ _ gk1).trans c6
              have c7q : ∀ d, (lay w [.inr d, .inr dk]).cell? ⟨g1, k * 6 + 2, none⟩ = some (.slice z.da z.dn z.dc) := fun d => (bw_cell _ d _ _ gk1).trans c7
              have fz := HI.out.row.froz (k * 6 + 1)
              have fz2 := HI.out.row.froz (k * 6 + 2)
              obtain ⟨t1, t2⟩ := HI.out.told k z t hzz htt (Nat.le_refl k)
              have hgt := HGt.out t (List.mem_of_getElem? htt)
              have HCA := Lib.hid (fun d => cln_Int _ t.g (bw (lay w [.inr dk]) d) (t1.bw d) (by omega))
              have HCB := Lib.hid (fun x y z => cln_Int _ t.d (lay w [.inr x, .inr y, .inr z, .inr dk]) (lsP_on (A := [.inr x, .inr y, .inr z]) t2) (by omega))
              have HSt := Lib.hid (fun d A nA cA B nB cB hA hB => HI.out.step HP.out hS0 hzz htt hg1 gk1 (d := d) (A := A) (nA := nA) (cA := cA) (B := B) (nB := nB) (cB := cB) hA hB)
              have y1 : (k : Int) < (nt : Int) := by omega
              have y0 : (0 : Int) ≤ (k : Int) := by omega
              clear hy hyv hzz htt t1 t2 hgt
              generalize z.ga = za at *
              generalize z.gn = zn at *
              generalize z.gc = zc at *
              generalize z.da = zda at *
              generalize z.dn = zdn at *
              generalize z.dc = zdc at *
              go_wp2_with fail
              refine region_mixS 14 [(0, 2), (1, 2), (2, 2), (3, 2), (4, 2), (7, 2), (8, 2), (9, 2), (5, 0), (10, 0), (6, 1), (11, 1), (12, 2), (13, 2), (14, 3), (15, 2), (16, 2), (17, 3)] (by kernel_rfl) (by kernel_rfl) (by kernel_rfl) rfl ?_
              repeat (first | (refine wpMS_pure rfl (fun K hK => ?_); go_simp; refine hK _ ?_; clear hK K) | (refine wpMS_quiet rfl (fun K hK => ?_); go_simp; first | (refine hK _ ?_; clear hK K) | (apply Exists.intro; refine ⟨fun _ => ?_, hK _ ?_⟩; (first | fail); clear hK K)))
              refine wpMS_special rfl (fun K hK e1 => ?_)
              go_simp
              refine (HCA.out e1).mono ?_
              rintro e w' ⟨A, nA, cA, dA, rfl, rfl, hA⟩
              have HA1 := Lib.hid hA
              clear hA
              refine ⟨_, rfl, ?_⟩
              refine hK _ _ ⟨_, bw_bw _ _ _⟩ ?_
              clear hK K
              refine wpMS_special rfl (fun K hK e2 => ?_)
              go_simp
              refine (HCB.out e2 dA e1).mono ?_
              rintro e w' ⟨B, nB, cB, dB, rfl, rfl, hB⟩
              refine ⟨_, rfl, ?_⟩
              obtain ⟨dT, hdT⟩ := lay_in w [.inr dB, .inr e2, .inr dA, .inr e1] [.inr dk]
              have HB1 := Lib.hid hB
              clear hB
              refine hK _ _ ⟨dT, hdT⟩ ?_
              clear hK K
              rw [show bw (lay w [.inr e2, .inr dA, .inr e1, .inr dk]) dB = bw (lay w [.inr dk]) dT from hdT]
              repeat (first | (refine wpMS_pure rfl (fun K hK => ?_); go_simp; refine hK _ ?_; clear hK K) | (refine wpMS_quiet rfl (fun K hK => ?_); go_simp; first | (refine hK _ ?_; clear hK K) | (apply Exists.intro; refine ⟨fun _ => ?_, hK _ ?_⟩; (first | fail); clear hK K)))
              refine wpMS_store rfl (fun K hK e3 => ?_)
              obtain ⟨dU, hdU⟩ : ∃ x, bw (bw (lay w [.inr dk]) dT) e3 = bw (lay w [.inr dk]) x := ⟨_, bw_bw _ _ _⟩
              rw [hdU]
              have hdAll : lay w ([.inr e3, .inr dB, .inr e2, .inr dA, .inr e1] ++ [.inr dk]) = bw (lay w [.inr dk]) dU := by rw [← hdU, ← hdT]; rfl
              have hA2 : LsP (fun b => (lay w [.inr dk]).heap.size ≤ b ∧ b < (bw (lay w [.inr dk]) dU).heap.size) (bw (lay w [.inr dk]) dU) (.slice A nA cA) t.g := by
                have h := lsP_on (A := [.inr e3, .inr dB, .inr e2]) (B := [.inr dA, .inr e1, .inr dk]) HA1.out
                have hz : (lay w [.inr dA, .inr e1, .inr dk]).heap.size ≤ (bw (lay w [.inr dk]) dU).heap.size := by rw [← hdAll]; exact (lay_belowG (A := [.inr e3, .inr dB, .inr e2]) (B := [.inr dA, .inr e1, .inr dk])).size
                rw [← hdAll]
                rw [← hdAll] at hz
                exact h.mono fun b hb => ⟨Nat.le_trans (bw_le _ e1) hb.1, Nat.lt_of_lt_of_le hb.2 hz⟩
              have hB2 : LsP (fun b => (lay w [.inr dk]).heap.size ≤ b ∧ b < (bw (lay w [.inr dk]) dU).heap.size) (bw (lay w [.inr dk]) dU) (.slice B nB cB) t.d := by
                have h := lsP_on (A := [.inr e3]) (B := [.inr dB, .inr e2, .inr dA, .inr e1, .inr dk]) HB1.out
                have hz : (lay w [.inr dB, .inr e2, .inr dA, .inr e1, .inr dk]).heap.size ≤ (bw (lay w [.inr dk]) dU).heap.size := by rw [← hdAll]; exact (lay_belowG (A := [.inr e3]) (B := [.inr dB, .inr e2, .inr dA, .inr e1, .inr dk])).size
                have hz2 : (lay w [.inr dk]).heap.size ≤ (lay w [.inr e2, .inr dA, .inr e1, .inr dk]).heap.size := (lay_belowG (A := [.inr e2, .inr dA, .inr e1]) (B := [.inr dk])).size
                rw [← hdAll]
                rw [← hdAll] at hz
                exact h.mono fun b hb => ⟨Nat.le_trans hz2 hb.1, Nat.lt_of_lt_of_le hb.2 hz⟩
              have HFin := Lib.hid (HSt.out dU A nA cA B nB cB hA2 hB2)
              clear hA2 hB2 hdAll
              have f6 : (lay w [.inr dU, .inr dk]).frozen? ⟨g1, k * 6 + 1, none⟩ = false := (bw_frozen _ dU _ _ gk1).trans fz
              have f7 : (lay w [.inr dU, .inr dk]).frozen? ⟨g1, k * 6 + 2, none⟩ = false := (bw_frozen _ dU _ _ gk1).trans fz2
              have c6u := c6q dU
              have c7u := c7q dU
              go_simp
              refine hK _ _ ?_
              clear hK K
              repeat (first | (refine wpMS_pure rfl (fun K hK => ?_); go_simp; refine hK _ ?_; clear hK K) | (refine wpMS_quiet rfl (fun K hK => ?_); go_simp; first | (refine hK _ ?_; clear hK K) | (apply Exists.intro; refine ⟨fun _ => ?_, hK _ ?_⟩; (first | fail); clear hK K)))
              refine wpMS_store rfl (fun K hK e4 => ?_)
              have gU : g1 < ((lay w [.inr dU, .inr dk]).setCell ⟨g1, k * 6 + 1, none⟩ (.slice A nA cA)).heap.size := by rw [World.size_setCell]; exact Nat.lt_of_lt_of_le gk1 (bw_le _ dU)
              obtain ⟨dY, hdY⟩ : ∃ x, bw ((lay w [.inr dU, .inr dk]).setCell ⟨g1, k * 6 + 1, none⟩ (.slice A nA cA)) e4 = lay w [.inr x] := by
                obtain ⟨x, hx⟩ := bw_storeG (w := w) (d := ⟨dk.blocks ++ dU.blocks, dU.drawn⟩) (g := g1) (i := k * 6 + 1) (v := .slice A nA cA) (Nat.le_trans hS0 hg1)
                rw [show lay w [.inr dU, .inr dk] = bw w ⟨dk.blocks ++ dU.blocks, dU.drawn⟩ from bw_bw w dk dU, hx]
                exact ⟨_, bw_bw _ _ _⟩
              have c8 : (lay w [.inr dY]).cell? ⟨g1, k * 6 + 2, none⟩ = some (.slice zda zdn zdc) := by
                rw [← hdY, bw_cell _ _ _ _ gU]
                refine (World.cell?_setCell_other _ _ _ _ ?_).trans c7u
                intro h
                have : k * 6 + 1 = k * 6 + 2 := congrArg Addr.off h
                omega
              have f8 : (lay w [.inr dY]).frozen? ⟨g1, k * 6 + 2, none⟩ = false := by
                rw [← hdY, bw_frozen _ _ _ _ gU, World.frozen?_setCell]
                exact f7
              rw [hdY]
              go_simp
              refine hK _ _ ?_
              clear hK K
              refine wpMS_nil (fun e5 => ?_)
              have gY : g1 < (lay w [.inr dY]).heap.size := by rw [← hdY]; exact Nat.lt_of_lt_of_le gU (bw_le _ e4)
              have gY0 : g0 < (lay w [.inr dY]).heap.size := by rw [← hdY]; refine Nat.lt_of_lt_of_le ?_ (bw_le _ e4); rw [World.size_setCell]; exact Nat.lt_of_lt_of_le gk0 (bw_le _ dU)
              have hFin2 : ∃ LT, CpI P w g0 q cap l i S (.slice (some ⟨g1, 0, none⟩) nt c2) p (k + 1) (bw ((lay w [.inr dY]).setCell ⟨g1, k * 6 + 2, none⟩ (.slice B nB cB)) e5) LS LT := by
                rw [← hdY, bw_setCell _ _ _ _ _ gU]
                exact ⟨_, (HFin.out.bw e4).bw e5⟩
              obtain ⟨dF, hdF⟩ : ∃ x, bw ((lay w [.inr dY]).setCell ⟨g1, k * 6 + 2, none⟩ (.slice B nB cB)) e5 = lay w [.inr x] := by
                obtain ⟨x, hx⟩ := bw_storeG (w := w) (d := dY) (g := g1) (i := k * 6 + 2) (v := .slice B nB cB) (Nat.le_trans hS0 hg1)
                rw [show lay w [.inr dY] = bw w dY from rfl, hx]
                exact ⟨_, bw_bw _ _ _⟩
              have gF : g1 < (lay w [.inr dF]).heap.size := by rw [← hdF]; refine Nat.lt_of_lt_of_le ?_ (bw_le _ e5); rw [World.size_setCell]; exact gY
              have gF0 : g0 < (lay w [.inr dF]).heap.size := by rw [← hdF]; refine Nat.lt_of_lt_of_le ?_ (bw_le _ e5); rw [World.size_setCell]; exact gY0
              rw [hdF] at hFin2 ⊢
              have HFin3 := Lib.hid hFin2
              clear hFin2 HFin
              go_wp2_with fail
              go_roundw
              case rel => exact ⟨k + 1, dF, by omega, by go_num, rfl, gF0, gF, HFin3.out⟩
              case measure => simp [intOf]; omega
            · obtain rfl : k = nt := by omega
              have HDn := Lib.hid (HI.out.done (by rw [HNt.out]; exact Nat.le_refl _) hS0)
              have y1 : ¬ (k : Int) < (k : Int) := by omega
              go_wp2_with fail
              go_roundw
              case rel => exact ⟨i + 1, dk, by omega, by go_num, rfl, gk0, _, HDn.out⟩
              case measure => simp [intOf]; omega
      · obtain rfl : i = q := by omega
        have HB := Lib.hid (HO.out.done (by rw [HQ.out]; exact Nat.le_refl _) hg0)
        have x1 : ¬ (i : Int) < (i : Int) := by omega
        go_wp2_with fail
        go_ret
        exact ⟨some ⟨g0, 0, none⟩, cap, dd, by rw [HQ.out]; rfl, rfl, by rw [HQ.out]; exact HB.out⟩
end Go.Proofs.YtnnmfdeeicpdlaaGreat
/- almanac.New in full: the ways out ahead of the loop. -/
namespace Go.Proofs.YtnnmfdeeicpdlaaGreat
set_option maxHeartbeats 1000000
open Go.RowKit Go.Shelf

noncomputable def badP (l : List PgV) : Bool := l.any fun p => !pgB p
theorem alm_New_full {P : Nat → Prop} (vp vs : Value) (lp : List PgV) (w : World) (hp : PgsD P w vp lp) (h : 40 < lp.length) :
    Calls Tryz.prog 12 #[vp, vs] w fun e w' => e = .returned (.tuple #[.pointer none, .int .i64 4]) ∧ ∃ d, w' = bw w d := by
  obtain ⟨a, c, rfl⟩ := pgs_form hp
  obtain ⟨q, hq⟩ : ∃ q, lp.length = q := ⟨_, rfl⟩
  rw [hq] at h ⊢
  have x1 : (40 : Int) < (q : Int) := by omega
  clear hp hq
  refine lay_start ?_
  go_enter Tryz.func12, Tryz.ntmps12
  go_wp2_with fail
  all_goals exact bodyPost_ret (v := .tuple #[.pointer none, .int .i64 4]) (by simp [results, Tryz.results12, go_sem]) rfl ⟨rfl, lay_ex _ _⟩
theorem alm_New_arg {P : Nat → Prop} (vp vs : Value) (lp : List PgV) (ls : List StarV) (w : World) (hp : PgsD P w vp lp) (hv : SlG stR w vs ls) (h : lp.length ≤ 40) (hb : badP lp = true ∨ catB ls = false) :
    Calls Tryz.prog 12 #[vp, vs] w fun e w' => e = .returned (.tuple #[.pointer none, .int .i64 1]) ∧ ∃ d, w' = bw w d := by
  have HC := Lib.hid (fun L => cat_Valid vs ls (lay w L) (hv.lay L))
  have HB := Lib.hid (fun L => pgs_bad vp lp (lay w L) (hp.lay L))
  change Hid (∀ L, Calls _ _ _ _ fun e w' => e = .returned (.bool (badP lp)) ∧ _) at HB
  obtain ⟨a, c, rfl⟩ := pgs_form hp
  obtain ⟨q, hq⟩ : ∃ q, lp.length = q := ⟨_, rfl⟩
  rw [hq] at h HB ⊢
  have x1 : ¬ (40 : Int) < (q : Int) := by omega
  clear hp hq hv
  generalize badP lp = r at *
  generalize catB ls = y at *
  cases r
  · obtain rfl : y = false := by simpa using hb
    clear hb
    refine lay_start ?_
    go_enter Tryz.func12, Tryz.ntmps12
    go_wp2_with (first | (go_at_call 63; refine (HB.out _).mono ?_; rintro e w' ⟨rfl, d, rfl⟩) | (go_at_call 66; refine (HC.out _).mono ?_; rintro e w' ⟨rfl, d, rfl⟩))
    all_goals exact bodyPost_ret (v := .tuple #[.pointer none, .int .i64 1]) (by simp [results, Tryz.results12, go_sem]) rfl ⟨rfl, lay_ex _ _⟩
  · clear hb
    refine lay_start ?_
    go_enter Tryz.func12, Tryz.ntmps12
    go_wp2_with (first | (go_at_call 63; refine (HB.out _).mono ?_; rintro e w' ⟨rfl, d, rfl⟩) | (go_at_call 66; refine (HC.out _).mono ?_; rintro e w' ⟨rfl, d, rfl⟩))
    all_goals exact bodyPost_ret (v := .tuple #[.pointer none, .int .i64 1]) (by simp [results, Tryz.results12, go_sem]) rfl ⟨rfl, lay_ex _ _⟩
def twS (T : List ByteArray) (s : ByteArray) : Bool := isA s || Lib.containsS T s
theorem alm_New2 (x : StarV) (T : List ByteArray) (vt : Value) (b : Nat) (w : World) (hb : b < w.heap.size) (hc : w.cell? ⟨b, 0, none⟩ = some vt) (hT : SlG strR w vt T) :
    Calls Tryz.prog 73 #[.agg #[.string x.s, .int .i64 x.sha, .int .i64 x.dec, .int .i64 x.mag], .pointer (some ⟨b, 0, none⟩)] w fun e w' => e = .returned (.bool (twS T x.s)) ∧ ∃ d, w' = bw w d := by
  obtain ⟨xs, x1, x2, x3⟩ := x
  dsimp only
  have HT := Lib.hid (fun L => str_Contains vt T xs (lay w L) (hT.lay L))
  have ho : isA xs = (xs.toList == [65, 114, 105, 101, 115]) := rfl
  unfold twS
  obtain ⟨ta, tc, rfl⟩ := hT.form
  generalize T.length = n at *
  generalize Lib.containsS T xs = r at *
  clear hT
  cases h : isA xs
  all_goals
    rw [h] at ho
    have t1 := ho.symm
    clear ho h
    refine lay_start ?_
    go_enter Tryz.func73, Tryz.ntmps73
    go_wp2_with (go_at_call 71; refine (HT.out _).mono ?_; rintro e w' ⟨rfl, rfl⟩)
    go_ret
    exact ⟨rfl, lay_ex _ _⟩
end Go.Proofs.YtnnmfdeeicpdlaaGreat
/- almanac.New in full: the book while its days are put in. -/
namespace Go.Proofs.YtnnmfdeeicpdlaaGreat
open Go.RowKit Go.Shelf

def dysL (l : List PgV) : List Int := l.map fun p => numI p.y p.m p.d
def OrdK (l : List PgV) (k : Nat) : Prop := ∀ (i : Nat) p q, i + 1 < k → l[i]? = some p → l[i + 1]? = some q → numI p.y p.m p.d < numI q.y q.m q.d
structure NwI (w : World) (bk H : Nat) (vp vs vd : Value) (lp : List PgV) (ls : List StarV) (k : Nat) (W : World) (d : Ext) : Prop where
  size : W.heap.size = H
  below : Below w.heap.size w W
  bk0 : w.heap.size ≤ bk
  bk1 : bk < H
  c0 : W.cell? ⟨bk, 0, none⟩ = some vd
  c1 : W.cell? ⟨bk, 1, none⟩ = some vp
  c2 : W.cell? ⟨bk, 2, none⟩ = some vs
  fz : W.frozen? ⟨bk, 0, none⟩ = false
  row : Ow (bw W d) H vd ((dysL lp).take k)
  pgs : PgsD (fun b => w.heap.size ≤ b ∧ b ≠ bk) W vp lp
  sts : SlG stR W vs ls
  stb : Blk (fun b => w.heap.size ≤ b ∧ b ≠ bk) vs
theorem NwI.step {w : World} {bk H : Nat} {vp vs vd : Value} {lp : List PgV} {ls : List StarV} {k : Nat} {W : World} {d : Ext} (h : NwI w bk H vp vs vd lp ls k W d) {vd' : Value} {d' : Ext} {k' : Nat} (hr : Ow (bw W d') H vd' ((dysL lp).take k')) :
    NwI w bk H vp vs vd' lp ls k' (W.setCell ⟨bk, 0, none⟩ vd') d' := by
  have hb : bk < W.heap.size := by rw [h.size]; exact h.bk1
  have ho : ∀ b, (w.heap.size ≤ b ∧ b ≠ bk) → b < W.heap.size → (W.setCell ⟨bk, 0, none⟩ vd').heap[b]? = W.heap[b]? := fun b hb _ => heap_setCell_other _ ⟨bk, 0, none⟩ b _ hb.2
  refine ⟨by rw [World.size_setCell]; exact h.size, h.below.setCell h.bk0 _, h.bk0, h.bk1, World.cell?_setCell_same _ _ _ h.c0, ?_, ?_, ?_, ?_, ?_, ?_, h.stb⟩
  · exact (World.cell?_setCell_other _ _ _ _ (by intro e; cases e)).trans h.c1
  · exact (World.cell?_setCell_other _ _ _ _ (by intro e; cases e)).trans h.c2
  · rw [World.frozen?_setCell]; exact h.fz
  · rw [← bw_setCell W d' bk 0 vd' hb]
    exact ⟨ownsRow_setCell_below hr.1 h.bk1 _, hr.2⟩
  · exact h.pgs.keep (by rw [World.size_setCell]; exact Nat.le_refl _) ho
  · exact slG_keep h.sts h.stb (by rw [World.size_setCell]; exact Nat.le_refl _) ho
structure BkA (w : World) (bk : Nat) (lp : List PgV) (ls : List StarV) (W : World) : Prop where
  bk0 : w.heap.size ≤ bk
  ex : ∃ vd vp vs, Bk W bk vd vp vs ∧ Sl W vd (dysL lp) ∧ Blk (fun b => w.heap.size ≤ b ∧ b ≠ bk) vd ∧ PgsD (fun b => w.heap.size ≤ b ∧ b ≠ bk) W vp lp ∧ SlG stR W vs ls ∧ Blk (fun b => w.heap.size ≤ b ∧ b ≠ bk) vs
def NewPost (w : World) (lp : List PgV) (ls : List StarV) (e : Ending) (w' : World) : Prop :=
  ∃ bk d, e = .returned (.tuple #[.pointer (some ⟨bk, 0, none⟩), .int .i64 0]) ∧ w' = bw w d ∧ BkA w bk lp ls (bw w d)
theorem ow_blk {W : World} {H : Nat} {v : Value} {l : List Int} (h : Ow W H v l) : Blk (fun b => H ≤ b) v := fun b o n c e hn => by
  rcases h.1.2 with ⟨h1, _⟩ | ⟨g, cap, cur, h1, h2, _⟩
  · rw [h1] at e; cases e
  · rw [h1] at e; cases e; exact h2
end Go.Proofs.YtnnmfdeeicpdlaaGreat
/- The blocks that a reading met lie in the world. -/
namespace Go.Proofs.YtnnmfdeeicpdlaaGreat
open Go.RowKit

theorem LsP.bound {P : Nat → Prop} {w : World} {v : Value} {l : List Int} (h : LsP P w v l) : LsP (fun b => P b ∧ b < w.heap.size) w v l := by
  refine ⟨h.1, fun b o n c e hn => ⟨h.2 b o n c e hn, ?_⟩⟩
  obtain ⟨a, c', e1, _, _, h3⟩ := h.1
  obtain ⟨rfl, rfl, rfl⟩ := Value.slice.inj (e.symm.trans e1)
  obtain ⟨b', o', e2, h5, _⟩ := h3 (by intro h; rw [h] at hn; exact Nat.lt_irrefl 0 hn)
  cases e2; exact h5
theorem slG_bound {α : Type} {R : RecT α} {P : Nat → Prop} {w : World} {v : Value} {l : List α} (h : SlG R w v l) (hb : Blk P v) : Blk (fun b => P b ∧ b < w.heap.size) v := fun b o n c e hn => by
  refine ⟨hb b o n c e hn, ?_⟩
  obtain ⟨a, c', e1, _, _, h3⟩ := h
  obtain ⟨rfl, rfl, rfl⟩ := Value.slice.inj (e.symm.trans e1)
  obtain ⟨b', o', e2, h5, _⟩ := h3 (by intro h; rw [h] at hn; exact Nat.lt_irrefl 0 hn)
  cases e2; exact h5
theorem TkD.bound {P : Nat → Prop} {w : World} {x : TkW} {t : TrkV} (h : TkD P w x t) : TkD (fun b => P b ∧ b < w.heap.size) w x t := ⟨h.s, h.g.bound, h.d.bound, h.p, h.q, h.r⟩
theorem TksD.bound {P : Nat → Prop} {w : World} {v : Value} {l : List TrkV} (h : TksD P w v l) : TksD (fun b => P b ∧ b < w.heap.size) w v l := by
  obtain ⟨ls, h1, h2, h3, h4⟩ := h
  exact ⟨ls, h1, slG_bound h1 h2, h3, fun i x t a b => (h4 i x t a b).bound⟩
theorem PgD.bound {P : Nat → Prop} {w : World} {x : PgW} {t : PgV} (h : PgD P w x t) : PgD (fun b => P b ∧ b < w.heap.size) w x t := ⟨h.y, h.m, h.d, h.ts.bound⟩
theorem PgsD.bound {P : Nat → Prop} {w : World} {v : Value} {l : List PgV} (h : PgsD P w v l) : PgsD (fun b => P b ∧ b < w.heap.size) w v l := by
  obtain ⟨ls, h1, h2, h3, h4⟩ := h
  exact ⟨ls, h1, slG_bound h1 h2, h3, fun i x t a b => (h4 i x t a b).bound⟩
theorem owG_blk {α : Type} {R : RecT α} {W : World} {H : Nat} {v : Value} {l : List α} (h : OwG R W H v l) : Blk (fun b => H ≤ b) v := fun b o n c e hn => by
  rcases h.1.2 with ⟨h1, _⟩ | ⟨g, cap, cur, h1, h2, _⟩
  · rw [h1] at e; cases e
  · rw [h1] at e; cases e; exact h2
theorem PgsD.lay_on {P : Nat → Prop} {w : World} {v : Value} {l : List PgV} {A B : List (Obj ⊕ Ext)} (h : PgsD P (Go.Proofs.YtnnmfdeeicpdlaaGreat.lay w B) v l) : PgsD P (Go.Proofs.YtnnmfdeeicpdlaaGreat.lay w (A ++ B)) v l := h.keep lay_belowG.size fun b _ hb => lay_belowG.block b hb
theorem nwI_new (w : World) (L4 L3 : List (Obj ⊕ Ext)) (t : TypeId) (vp vs : Value) (lp : List PgV) (ls : List StarV)
    (hp : PgsD (fun b => w.heap.size ≤ b) (lay w L3) vp lp) (hs : OwG stR (lay w (L4 ++ L3)) w.heap.size vs ls) :
    NwI w (posn w (shp (L4 ++ L3))) (lay w (.inl (.cells #[.slice none 0 0, vp, vs] t (0, 0)) :: (L4 ++ L3))).heap.size vp vs (.slice none 0 0) lp ls 0 (lay w (.inl (.cells #[.slice none 0 0, vp, vs] t (0, 0)) :: (L4 ++ L3))) (noExt (lay w (.inl (.cells #[.slice none 0 0, vp, vs] t (0, 0)) :: (L4 ++ L3)))) := by
  obtain ⟨b0, b1, b2, b3⟩ := bk_new0 w (L4 ++ L3) t (.slice none 0 0) vp vs
  have hz : posn w (shp (L4 ++ L3)) = (lay w (L4 ++ L3)).heap.size := (lay_size w (L4 ++ L3)).symm
  have hle : w.heap.size ≤ (lay w (L4 ++ L3)).heap.size := (lay_extends w _).size
  have h3 : (lay w L3).heap.size ≤ (lay w (L4 ++ L3)).heap.size := (lay_belowG (A := L4) (B := L3)).size
  refine ⟨rfl, lay_extends w _, by rw [hz]; exact hle, b0, b1, b2, b3, ?_, ?_, ?_, ?_, ?_⟩
  · have h := lay_get w (.inl (.cells #[.slice none 0 0, vp, vs] t (0, 0)) :: (L4 ++ L3)) 0 _ rfl
    unfold World.frozen?
    rw [show posn w (shp (L4 ++ L3)) = posn w ((shp (.inl (.cells #[.slice none 0 0, vp, vs] t (0, 0)) :: (L4 ++ L3))).drop (0 + 1)) from rfl, h]
    rfl
  · rw [bw_noExt]; exact Ow.nil _ _
  · have := (hp.bound.lay_on (A := .inl (.cells #[.slice none 0 0, vp, vs] t (0, 0)) :: L4))
    exact this.mono fun b hb => ⟨hb.1, by rw [hz]; omega⟩
  · exact (hs.sl stOk).lay [.inl _]
  · exact (slG_bound (hs.sl stOk) (owG_blk hs)).mono fun b hb => ⟨hb.1, by rw [hz]; omega⟩
end Go.Proofs.YtnnmfdeeicpdlaaGreat

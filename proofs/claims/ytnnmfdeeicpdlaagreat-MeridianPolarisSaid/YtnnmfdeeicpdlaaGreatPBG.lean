/- Contracts and plain laws, several texts in one: Rbd; Cln2; Cpy0; Cpy; Nwa; Nwb; Bnd; Nwc; Nwd -/
import Derived.Test.YtnnmfdeeicpdlaaGreatProg
import Derived.WalkKit
import Derived.WalkSpells
import Derived.WalkLawsBesides
import Derived.Lib.Hide
import Derived.BigQuiet
import Derived.Test.YtnnmfdeeicpdlaaGreatPAA
import Derived.Test.YtnnmfdeeicpdlaaGreatPAB
import Derived.Test.YtnnmfdeeicpdlaaGreatPAC
import Derived.Test.YtnnmfdeeicpdlaaGreatPBD
import Derived.Test.YtnnmfdeeicpdlaaGreatPBE
import Derived.Test.YtnnmfdeeicpdlaaGreatPBF
/- The reference's bodies. -/
namespace Go.Proofs.YtnnmfdeeicpdlaaGreat
open Go.RowKit Go.Sort

set_option maxHeartbeats 1000000 in
set_option maxRecDepth 100000 in
theorem ref17_Bodies {P : Nat → Prop} (vp vs : Value) (lp : List PgV) (l : List StarV) (w : World) (hp : PgsD P w vp lp) (hF : Few lp) (hv : SlG stR w vs l) (hl : l.length ≤ 1000000) :
    Calls Tryz.prog 140 #[.agg #[vp, vs]] w (StrOwn w ([ariesS] ++ tkL lp ++ l.map StarV.s)) := by
  obtain ⟨T, hT⟩ : ∃ T, tkL lp = T := ⟨_, rfl⟩
  have HT1 : Hid (T.length ≤ 1000000) := Lib.hid (by
    rw [← hT]
    have h1 := onceS_len ((nmsL lp).map ofB)
    rw [List.length_map] at h1
    have h2 := few_nms hF
    unfold tkL; rw [List.length_map]; omega)
  have HT := Lib.hid (fun L => ref17_Tracked vp vs lp (lay w L) (hp.lay L) hF)
  rw [hT] at HT ⊢
  have HL := Lib.hid hl
  obtain ⟨va, vc, rfl⟩ := hv.form
  have HV := Lib.hid hv
  obtain ⟨m, hm⟩ : ∃ m, l.length = m := ⟨_, rfl⟩
  have HM := Lib.hid hm
  have HW := Lib.hid hv.wf
  rw [hm] at HV HT HL ⊢
  obtain ⟨F, hFe⟩ : ∃ F, [ariesS] ++ T ++ l.map StarV.s = F := ⟨_, rfl⟩
  have HFe := Lib.hid hFe
  rw [hFe]
  clear hl hv hp hF hT hm hFe
  refine lay_start ?_
  go_enter Tryz.func140, Tryz.ntmps140
  go_wp2_with fail
  refine (HT.out _).mono ?_
  rintro e w' ⟨A, c, d1, rfl, rfl, hA, hS⟩
  rw [lay_bw] at hS ⊢
  have HS := Lib.hid hS
  have HA := Lib.hid hA
  clear hS hA
  go_wp2_with (at_builtin; refine push_slG strOk rfl _ _ rfl (lay w [.inl (.cells #[vp, .slice va m vc] 96 (0, 0))]) _ _ [ariesS] A T.length c T (lay_belowG (A := [_, _]) (B := [.inl (.cells #[vp, .slice va m vc] 96 (0, 0))])) (owG_on (A := [_]) (owG_lit strOk [ariesS] (str_flat1 _) (by decide) aries_wf)) HS.out HA.out rfl rfl (by have := HT1.out; simp only [List.length_cons, List.length_nil]; omega) ?_; intro v2 d2 hv2)
  obtain ⟨Q0, hQ0⟩ : ∃ Q0, Q0 = [ariesS] ++ T := ⟨_, rfl⟩
  have HQ0 := Lib.hid hQ0
  rw [← hQ0] at hv2
  have H2 := Lib.hid hv2
  obtain ⟨v2a, v2c, rfl⟩ := hv2.form
  clear hv2 hQ0
  generalize Q0.length = n0 at *
  go_wp2_with fail
  go_loopw [3, 4] (fun v3 v4 wr => ∃ (i : Nat) (d : Ext), i ≤ m ∧ v4 = .int .i64 (i : Int) ∧ wr = lay w [.inr d, .inl (.cells #[vp, .slice va m vc] 96 (0, 0))] ∧ OwG strR (lay w [.inr d, .inl (.cells #[vp, .slice va m vc] 96 (0, 0))]) (lay w [.inl (.cells #[vp, .slice va m vc] 96 (0, 0))]).heap.size v3 (Q0 ++ (l.take i).map StarV.s)) (fun _ v4 _ => m - (intOf v4).toNat)
  case atStart => exact ⟨0, d2, Nat.zero_le _, rfl, rfl, by have h := H2.out; rw [← List.append_nil Q0] at h; exact h⟩
  case round =>
    clear H2 HS HA
    obtain ⟨i, d, hi, rfl, rfl, hO⟩ := hrel
    have HO := Lib.hid hO
    clear hO
    by_cases hlt : i < m
    · obtain ⟨x, hx⟩ : ∃ x, l[i]? = some x := ⟨_, List.getElem?_eq_getElem (by rw [HM.out]; exact hlt)⟩
      obtain ⟨bs, os, cs, hvs, hcs, hbs, hr⟩ := HV.out.open (by rw [HM.out]; omega)
      rw [HM.out] at hvs hcs
      cases hvs
      have e0 : w.cell? ⟨bs, os + i * 4, none⟩ = some (.string x.s) := hr i x hx 0 _ rfl
      have e1 : w.cell? ⟨bs, os + i * 4 + 1, none⟩ = some (.int .i64 x.sha) := hr i x hx 1 _ rfl
      have e2 : w.cell? ⟨bs, os + i * 4 + 2, none⟩ = some (.int .i64 x.dec) := hr i x hx 2 _ rfl
      have e3 : w.cell? ⟨bs, os + i * 4 + 3, none⟩ = some (.int .i64 x.mag) := hr i x hx 3 _ rfl
      have x1 : (i : Int) < (m : Int) := by omega
      have x0 : (0 : Int) ≤ (i : Int) := by omega
      have HWx := Lib.hid (HW.out x (List.mem_of_getElem? hx)).1
      have HLn : Hid ((Q0 ++ (l.take i).map StarV.s).length ≤ 1000000000) := Lib.hid (by have h1 := HT1.out; have h2 := HL.out; rw [HQ0.out]; simp only [List.length_append, List.length_map, List.length_take, List.length_cons, List.length_nil]; omega)
      have HN : Hid (Q0 ++ (l.take i).map StarV.s ++ [x.s] = Q0 ++ (l.take (i + 1)).map StarV.s) := Lib.hid (by rw [List.take_add_one, hx]; simp)
      clear hx hr
      generalize hQ : Q0 ++ (l.take i).map StarV.s = Q at *
      clear hQ
      obtain ⟨xs, xa, xb, xc⟩ := x
      dsimp only at e0 e1 e2 e3 HWx HN
      go_wp2_with (at_builtin; refine push_rec strOk rfl _ _ rfl (lay w [.inl (.cells #[vp, .slice (some ⟨bs, os, none⟩) m vc] 96 (0, 0))]) _ xs #[.string xs] 9 (posn w [d.n, 1]) _ Q (lay_belowG (A := [_, _]) (B := [_])) (owG_on (A := [_]) HO.out) (lay_get w _ 0 _ rfl) rfl rfl rfl HLn.out HWx.out ?_; intro v3 d3 hv3)
      have H3 := Lib.hid hv3
      clear hv3
      go_wp2_with fail
      go_roundw
      case rel =>
        exact ⟨i + 1, d3, by omega, by go_num, rfl, by have h3 := H3.out; rw [HN.out] at h3; exact h3⟩
      case measure => simp [intOf]; omega
    · obtain rfl : i = m := by omega
      have x1 : ¬ (i : Int) < (i : Int) := by omega
      have HN : Hid (l.take i = l) := Lib.hid (by rw [← HM.out]; exact List.take_length)
      rw [HN.out] at HO
      go_wp2_with fail
      go_ret
      obtain ⟨d9, hd9⟩ := lay_ex w [.inr d, .inl (.cells #[vp, .slice va i vc] 96 (0, 0))]
      have h := HO.out.le (lay_extends w _).size
      rw [HQ0.out, HFe.out] at h
      refine ⟨_, d9, rfl, hd9, ?_⟩
      rw [← hd9]
      exact h
end Go.Proofs.YtnnmfdeeicpdlaaGreat
/- slices.Clone at tracks, pages, ints. -/
namespace Go.Proofs.YtnnmfdeeicpdlaaGreat
open Go.RowKit

end Go.Proofs.YtnnmfdeeicpdlaaGreat
/- Deep copies of pages: what holds while the copy is made. No function of the program. -/
namespace Go.Proofs.YtnnmfdeeicpdlaaGreat
open Go.RowKit

theorem owG_same {α : Type} {R : RecT α} {w w' : World} {base g n c : Nat} {l : List α} (h : OwG R w base (.slice (some ⟨g, 0, none⟩) n c) l) (hk : w'.heap[g]? = w.heap[g]?) : OwG R w' base (.slice (some ⟨g, 0, none⟩) n c) l := by
  refine ⟨⟨h.1.1, h.1.2.imp id ?_⟩, h.2⟩
  rintro ⟨g', cap, cur, e, h1, h2, h3⟩
  cases e
  exact ⟨g, c, cur, rfl, h1, hk.trans h2, h3⟩
theorem heap_set_other {w : World} {g i b : Nat} {v : Value} (h : b ≠ g) : (w.setCell ⟨g, i, none⟩ v).heap[b]? = w.heap[b]? := heap_setCell_other _ ⟨g, i, none⟩ b v h
structure CpO (P : Nat → Prop) (w0 : World) (g0 n cap : Nat) (l : List PgV) (i : Nat) (W : World) (ls : List PgW) : Prop where
  own : OwG pgR W w0.heap.size (.slice (some ⟨g0, 0, none⟩) n cap) ls
  len : ls.length = l.length
  sc : ∀ (j : Nat) x p, ls[j]? = some x → l[j]? = some p → x.y = p.y ∧ x.m = p.m ∧ x.d = p.d
  new : ∀ (j : Nat) x p, ls[j]? = some x → l[j]? = some p → j < i → TksD (fun b => w0.heap.size ≤ b ∧ b ≠ g0 ∧ b < W.heap.size) W (.slice x.ta x.tn x.tc) p.ts
  old : ∀ (j : Nat) x p, ls[j]? = some x → l[j]? = some p → i ≤ j → TksD P W (.slice x.ta x.tn x.tc) p.ts
structure CpI (P : Nat → Prop) (w0 : World) (g0 n cap : Nat) (l : List PgV) (i S : Nat) (v2 : Value) (p : PgV) (k : Nat) (W : World) (ls : List PgW) (lt : List TkW) : Prop where
  own : OwG pgR W w0.heap.size (.slice (some ⟨g0, 0, none⟩) n cap) ls
  len : ls.length = l.length
  sc : ∀ (j : Nat) x p, ls[j]? = some x → l[j]? = some p → x.y = p.y ∧ x.m = p.m ∧ x.d = p.d
  new : ∀ (j : Nat) x p, ls[j]? = some x → l[j]? = some p → j < i → TksD (fun b => w0.heap.size ≤ b ∧ b ≠ g0 ∧ b < S) W (.slice x.ta x.tn x.tc) p.ts
  old : ∀ (j : Nat) x p, ls[j]? = some x → l[j]? = some p → i < j → TksD P W (.slice x.ta x.tn x.tc) p.ts
  at_ : ∃ x, ls[i]? = some x ∧ v2 = .slice x.ta x.tn x.tc
  pg : l[i]? = some p
  sS : S ≤ W.heap.size
  gS : g0 < S
  row : OwG tkR W S v2 lt
  tlen : lt.length = p.ts.length
  tsc : ∀ (j : Nat) x t, lt[j]? = some x → p.ts[j]? = some t → x.s = t.s ∧ x.p = t.p ∧ x.q = t.q ∧ x.r = t.r
  tnew : ∀ (j : Nat) x t, lt[j]? = some x → p.ts[j]? = some t → j < k → LsP (fun b => S ≤ b ∧ b < W.heap.size ∧ ∀ g, v2.ownBlock = some g → b ≠ g) W (.slice x.ga x.gn x.gc) t.g ∧ LsP (fun b => S ≤ b ∧ b < W.heap.size ∧ ∀ g, v2.ownBlock = some g → b ≠ g) W (.slice x.da x.dn x.dc) t.d
  told : ∀ (j : Nat) x t, lt[j]? = some x → p.ts[j]? = some t → k ≤ j → LsP P W (.slice x.ga x.gn x.gc) t.g ∧ LsP P W (.slice x.da x.dn x.dc) t.d
theorem own_blk {g n c : Nat} : (Value.slice (some ⟨g, 0, none⟩) n c).ownBlock = some g := rfl
theorem CpI.done {P : Nat → Prop} {w0 : World} {g0 n cap : Nat} {l : List PgV} {i S : Nat} {v2 : Value} {p : PgV} {k : Nat} {W : World} {ls : List PgW} {lt : List TkW}
    (h : CpI P w0 g0 n cap l i S v2 p k W ls lt) (hk : p.ts.length ≤ k) (hS : w0.heap.size ≤ S) : CpO P w0 g0 n cap l (i + 1) W ls := by
  refine ⟨h.own, h.len, h.sc, fun j x q hx hq hj => ?_, fun j x q hx hq hj => h.old j x q hx hq (by omega)⟩
  by_cases e : j = i
  · subst e
    obtain ⟨x', hx', hv⟩ := h.at_
    rw [hx] at hx'
    cases hx'
    have hp := h.pg
    rw [hq] at hp
    cases hp
    rw [← hv]
    refine ⟨lt, h.row.sl tkOk, ?_, h.tlen, fun j2 y t hy ht => ?_⟩
    · intro b o n' c e hn
      have hform := h.row
      have hlen : 0 < lt.length := by
        obtain ⟨a, c', e'⟩ := hform.form
        rw [e] at e'
        cases e'
        exact hn
      obtain ⟨g, c', e', h1, h2, _⟩ := hform.form1 hlen
      rw [e] at e'
      cases e'
      have := h.gS
      exact ⟨by omega, by omega, h2⟩
    · have hj2 : j2 < k := by have := (List.getElem?_eq_some_iff.1 ht).1; omega
      obtain ⟨s1, s2, s3, s4⟩ := h.tsc j2 y t hy ht
      obtain ⟨t1, t2⟩ := h.tnew j2 y t hy ht hj2
      have := h.gS
      exact ⟨s1, t1.mono fun b hb => ⟨by omega, by omega, hb.2.1⟩, t2.mono fun b hb => ⟨by omega, by omega, hb.2.1⟩, s2, s3, s4⟩
  · exact (h.new j x q hx hq (by omega)).mono fun _ hb => ⟨hb.1, hb.2.1, Nat.lt_of_lt_of_le hb.2.2 h.sS⟩
theorem CpO.enter {P : Nat → Prop} {w0 : World} {g0 n cap : Nat} {l : List PgV} {i : Nat} {W : World} {ls : List PgW} (h : CpO P w0 g0 n cap l i W ls) (hP : ∀ b, P b → b < w0.heap.size) {x : PgW} {p : PgV}
    (hx : ls[i]? = some x) (hp : l[i]? = some p) {d : Ext} {a2 : Option Addr} {n2 c2 : Nat} {lt : List TkW} (hg : w0.heap.size ≤ g0) (hgW : g0 < W.heap.size)
    (hlt : SlG tkR W (.slice x.ta x.tn x.tc) lt) (hlen : lt.length = p.ts.length) (hD : ∀ (j : Nat) y t, lt[j]? = some y → p.ts[j]? = some t → TkD P W y t)
    (hrow : OwG tkR (bw W d) W.heap.size (.slice a2 n2 c2) lt) :
    CpI P w0 g0 n cap l i W.heap.size (.slice a2 n2 c2) p 0 ((bw W d).setCell ⟨g0, i * 4 + 3, none⟩ (.slice a2 n2 c2)) (ls.set i { x with ta := a2, tn := n2, tc := c2 }) lt := by
  have hil : i < ls.length := (List.getElem?_eq_some_iff.1 hx).1
  have hsz : ((bw W d).setCell ⟨g0, i * 4 + 3, none⟩ (.slice a2 n2 c2)).heap.size = (bw W d).heap.size := World.size_setCell _ _ _
  have hle := bw_le W d
  have hne : ∀ b, b ≠ g0 → b < W.heap.size → ((bw W d).setCell ⟨g0, i * 4 + 3, none⟩ (.slice a2 n2 c2)).heap[b]? = W.heap[b]? := fun b hb hlt => (heap_set_other hb).trans (bw_get W d b hlt)
  have hset : ∀ (j : Nat) y, (ls.set i { x with ta := a2, tn := n2, tc := c2 })[j]? = some y → j ≠ i → ls[j]? = some y := fun j y hy hj => by
    rw [List.getElem?_set_ne (by omega)] at hy; exact hy
  refine ⟨?_, by rw [List.length_set]; exact h.len, fun j y q hy hq => ?_, fun j y q hy hq hj => ?_, fun j y q hy hq hj => ?_, ⟨_, by rw [List.getElem?_set_self hil], rfl⟩, hp, by rw [hsz]; exact hle, hgW, ?_, hlen,
    fun j y t hy ht => ⟨(hD j y t hy ht).s, (hD j y t hy ht).p, (hD j y t hy ht).q, (hD j y t hy ht).r⟩, fun j y t hy ht hj => absurd hj (Nat.not_lt_zero j), fun j y t hy ht _ => ?_⟩
  · exact owG_store pgOk (h.own.bw d) (j := 3) hx (by decide) rfl (h.own.2 x (List.mem_of_getElem? hx))
  · by_cases e : j = i
    · subst e
      rw [List.getElem?_set_self hil] at hy
      cases hy
      exact h.sc j x q hx hq
    · exact h.sc j y q (hset j y hy e) hq
  · refine (h.new j y q (hset j y hy (by omega)) hq hj).keep (by rw [hsz]; exact hle) fun b hb hb2 => hne b hb.2.1 hb2
  · refine (h.old j y q (hset j y hy (by omega)) hq (by omega)).keep (by rw [hsz]; exact hle) fun b hb hb2 => hne b (by have := hP b hb; omega) hb2
  · by_cases hz : lt = []
    · subst hz
      rcases hrow.1.2 with ⟨e, hz⟩ | ⟨g, cap', cur, e, h1, h2, h3⟩
      · rw [e]; exact OwG.nil _ _ _
      · rw [e] at hrow ⊢
        exact owG_same hrow (heap_set_other (by omega))
    · obtain ⟨g, c', e, h1, _⟩ := hrow.form1 (List.length_pos_iff.2 hz)
      rw [e] at hrow ⊢
      exact owG_same hrow (heap_set_other (by omega))
  · have hk := hD j y t hy ht
    exact ⟨hk.g.keep (by rw [hsz]; exact hle) fun b hb hb2 => hne b (by have := hP b hb; omega) hb2, hk.d.keep (by rw [hsz]; exact hle) fun b hb hb2 => hne b (by have := hP b hb; omega) hb2⟩
theorem CpI.step {P : Nat → Prop} {w0 : World} {g0 n cap : Nat} {l : List PgV} {i S g1 n1 c1 : Nat} {p : PgV} {k : Nat} {W : World} {ls : List PgW} {lt : List TkW}
    (h : CpI P w0 g0 n cap l i S (.slice (some ⟨g1, 0, none⟩) n1 c1) p k W ls lt) (hP : ∀ b, P b → b < w0.heap.size) (hS : w0.heap.size ≤ S) {x : TkW} {t : TrkV} (hx : lt[k]? = some x) (ht : p.ts[k]? = some t) (hg1 : S ≤ g1) (hg1W : g1 < W.heap.size)
    {d : Ext} {A B : Option Addr} {nA cA nB cB : Nat}
    (hA : LsP (fun b => W.heap.size ≤ b ∧ b < (bw W d).heap.size) (bw W d) (.slice A nA cA) t.g) (hB : LsP (fun b => W.heap.size ≤ b ∧ b < (bw W d).heap.size) (bw W d) (.slice B nB cB) t.d) :
    CpI P w0 g0 n cap l i S (.slice (some ⟨g1, 0, none⟩) n1 c1) p (k + 1) (((bw W d).setCell ⟨g1, k * 6 + 1, none⟩ (.slice A nA cA)).setCell ⟨g1, k * 6 + 2, none⟩ (.slice B nB cB)) ls (lt.set k { x with ga := A, gn := nA, gc := cA, da := B, dn := nB, dc := cB }) := by
  have hkl : k < lt.length := (List.getElem?_eq_some_iff.1 hx).1
  obtain ⟨W2, hW2⟩ : ∃ W2, W2 = ((bw W d).setCell ⟨g1, k * 6 + 1, none⟩ (.slice A nA cA)).setCell ⟨g1, k * 6 + 2, none⟩ (.slice B nB cB) := ⟨_, rfl⟩
  have hsz : W2.heap.size = (bw W d).heap.size := by rw [hW2, World.size_setCell, World.size_setCell]
  have hle := bw_le W d
  have hfar : ∀ b, b ≠ g1 → W2.heap[b]? = (bw W d).heap[b]? := fun b hb => by rw [hW2]; exact (heap_set_other hb).trans (heap_set_other hb)
  have hne : ∀ b, b ≠ g1 → b < W.heap.size → W2.heap[b]? = W.heap[b]? := fun b hb hlt => (hfar b hb).trans (bw_get W d b hlt)
  have hgS := h.gS
  have hrow : OwG tkR W2 S (.slice (some ⟨g1, 0, none⟩) n1 c1) (lt.set k { x with ga := A, gn := nA, gc := cA, da := B, dn := nB, dc := cB }) := by
    have r1 := owG_store tkOk (h.row.bw d) (j := 1) (y := { x with ga := A, gn := nA, gc := cA }) (u := .slice A nA cA) hx (by decide) rfl (h.row.2 x (List.mem_of_getElem? hx))
    have r2 := owG_store tkOk r1 (i := k) (j := 2) (x := { x with ga := A, gn := nA, gc := cA }) (y := { x with ga := A, gn := nA, gc := cA, da := B, dn := nB, dc := cB }) (u := .slice B nB cB) (by rw [List.getElem?_set_self hkl]) (by decide) rfl (h.row.2 x (List.mem_of_getElem? hx))
    rw [List.set_set] at r2
    rw [hW2]; exact r2
  rw [← hW2]
  have hset : ∀ (j : Nat) y, (lt.set k { x with ga := A, gn := nA, gc := cA, da := B, dn := nB, dc := cB })[j]? = some y → j ≠ k → lt[j]? = some y := fun j y hy hj => by
    rw [List.getElem?_set_ne (by omega)] at hy; exact hy
  have fresh : ∀ {v : Value} {m : List Int}, LsP (fun b => W.heap.size ≤ b ∧ b < (bw W d).heap.size) (bw W d) v m → LsP (fun b => S ≤ b ∧ b < W2.heap.size ∧ ∀ g, (Value.slice (some ⟨g1, 0, none⟩) n1 c1).ownBlock = some g → b ≠ g) W2 v m := fun hv => by
    have h1 := hv.keep (w' := W2) (by rw [hsz]; exact Nat.le_refl _) fun b hb _ => hfar b (by omega)
    exact h1.mono fun b hb => ⟨by have := h.sS; omega, by rw [hsz]; exact hb.2, fun g e => by rw [own_blk] at e; cases e; omega⟩
  refine ⟨?_, h.len, h.sc, fun j y q hy hq hj => ?_, fun j y q hy hq hj => ?_, h.at_, h.pg, by rw [hsz]; have := h.sS; omega, hgS, hrow, by rw [List.length_set]; exact h.tlen, fun j y q hy hq => ?_, fun j y q hy hq hj => ?_, fun j y q hy hq hj => ?_⟩
  · exact owG_same (h.own.bw d) (hfar g0 (by omega))
  · exact (h.new j y q hy hq hj).keep (by rw [hsz]; exact hle) fun b hb hb2 => hne b (by omega) hb2
  · exact (h.old j y q hy hq hj).keep (by rw [hsz]; exact hle) fun b hb hb2 => hne b (by have := hP b hb; omega) hb2
  · by_cases e : j = k
    · subst e
      rw [List.getElem?_set_self hkl] at hy
      cases hy
      exact h.tsc j x q hx hq
    · exact h.tsc j y q (hset j y hy e) hq
  · by_cases e : j = k
    · subst e
      rw [List.getElem?_set_self hkl] at hy
      cases hy
      rw [ht] at hq
      cases hq
      exact ⟨fresh hA, fresh hB⟩
    · obtain ⟨t1, t2⟩ := h.tnew j y q (hset j y hy e) hq (by omega)
      have kp : ∀ {v : Value} {m : List Int}, LsP (fun b => S ≤ b ∧ b < W.heap.size ∧ ∀ g, (Value.slice (some ⟨g1, 0, none⟩) n1 c1).ownBlock = some g → b ≠ g) W v m → LsP (fun b => S ≤ b ∧ b < W2.heap.size ∧ ∀ g, (Value.slice (some ⟨g1, 0, none⟩) n1 c1).ownBlock = some g → b ≠ g) W2 v m := fun hv =>
        (hv.keep (w' := W2) (by rw [hsz]; exact hle) fun b hb hb2 => hne b (hb.2.2 g1 rfl) hb2).mono fun b hb => ⟨hb.1, by rw [hsz]; omega, hb.2.2⟩
      exact ⟨kp t1, kp t2⟩
  · obtain ⟨t1, t2⟩ := h.told j y q (hset j y hy (by omega)) hq (by omega)
    exact ⟨t1.keep (by rw [hsz]; exact hle) fun b hb hb2 => hne b (by have := hP b hb; omega) hb2, t2.keep (by rw [hsz]; exact hle) fun b hb hb2 => hne b (by have := hP b hb; omega) hb2⟩
theorem CpO.bw {P : Nat → Prop} {w0 : World} {g0 n cap : Nat} {l : List PgV} {i : Nat} {W : World} {ls : List PgW} (h : CpO P w0 g0 n cap l i W ls) (d : Ext) : CpO P w0 g0 n cap l i (bw W d) ls :=
  ⟨h.own.bw d, h.len, h.sc, fun j x p hx hp hj => ((h.new j x p hx hp hj).keep (bw_le W d) fun b _ hb => bw_get W d b hb).mono fun _ hb => ⟨hb.1, hb.2.1, Nat.lt_of_lt_of_le hb.2.2 (bw_le W d)⟩,
    fun j x p hx hp hj => (h.old j x p hx hp hj).keep (bw_le W d) fun b _ hb => bw_get W d b hb⟩
theorem CpI.bw {P : Nat → Prop} {w0 : World} {g0 n cap : Nat} {l : List PgV} {i S : Nat} {v2 : Value} {p : PgV} {k : Nat} {W : World} {ls : List PgW} {lt : List TkW} (h : CpI P w0 g0 n cap l i S v2 p k W ls lt) (d : Ext) : CpI P w0 g0 n cap l i S v2 p k (bw W d) ls lt :=
  ⟨h.own.bw d, h.len, h.sc, fun j x p hx hp hj => (h.new j x p hx hp hj).keep (bw_le W d) fun b _ hb => bw_get W d b hb, fun j x p hx hp hj => (h.old j x p hx hp hj).keep (bw_le W d) fun b _ hb => bw_get W d b hb, h.at_, h.pg,
    Nat.le_trans h.sS (bw_le W d), h.gS, h.row.bw d, h.tlen, h.tsc, fun j x t hx ht hj => ⟨((h.tnew j x t hx ht hj).1.keep (bw_le W d) fun b _ hb => bw_get W d b hb).mono fun _ hb => ⟨hb.1, Nat.lt_of_lt_of_le hb.2.1 (bw_le W d), hb.2.2⟩,
      ((h.tnew j x t hx ht hj).2.keep (bw_le W d) fun b _ hb => bw_get W d b hb).mono fun _ hb => ⟨hb.1, Nat.lt_of_lt_of_le hb.2.1 (bw_le W d), hb.2.2⟩⟩,
    fun j x t hx ht hj => ⟨(h.told j x t hx ht hj).1.keep (bw_le W d) fun b _ hb => bw_get W d b hb, (h.told j x t hx ht hj).2.keep (bw_le W d) fun b _ hb => bw_get W d b hb⟩⟩
theorem LsP.bw {P : Nat → Prop} {w : World} {v : Value} {l : List Int} (h : LsP P w v l) (d : Ext) : LsP P (bw w d) v l := h.keep (bw_le w d) fun b _ hb => bw_get w d b hb
theorem CpO.done {P : Nat → Prop} {w0 : World} {g0 n cap : Nat} {l : List PgV} {i : Nat} {W : World} {ls : List PgW} (h : CpO P w0 g0 n cap l i W ls) (hi : l.length ≤ i) (hg : w0.heap.size ≤ g0) : PgsD (fun b => w0.heap.size ≤ b) W (.slice (some ⟨g0, 0, none⟩) n cap) l := by
  refine ⟨ls, h.own.sl pgOk, fun b o n c e hn => by cases e; exact hg, h.len, fun j x p hx hp => ?_⟩
  obtain ⟨s1, s2, s3⟩ := h.sc j x p hx hp
  exact ⟨s1, s2, s3, (h.new j x p hx hp (by have := (List.getElem?_eq_some_iff.1 hp).1; omega)).mono fun _ hb => hb.1⟩
end Go.Proofs.YtnnmfdeeicpdlaaGreat
/- almanac.copied: a deep copy of pages. -/
namespace Go.Proofs.YtnnmfdeeicpdlaaGreat
open Go.RowKit

theorem PgsD.form {P : Nat → Prop} {w : World} {v : Value} {l : List PgV} (h : PgsD P w v l) : ∃ a cap, v = .slice a l.length cap := by
  obtain ⟨ls, h1, h2, h3, h4⟩ := h
  obtain ⟨a, c, e⟩ := h1.form
  exact ⟨a, c, by rw [e, h3]⟩
end Go.Proofs.YtnnmfdeeicpdlaaGreat
/- almanac.New in full: the ways out ahead of the loop. -/
namespace Go.Proofs.YtnnmfdeeicpdlaaGreat
open Go.RowKit Go.Shelf

def twS (T : List ByteArray) (s : ByteArray) : Bool := isA s || Lib.containsS T s
end Go.Proofs.YtnnmfdeeicpdlaaGreat
/- almanac.New in full: the book while its days are put in. -/
namespace Go.Proofs.YtnnmfdeeicpdlaaGreat
open Go.RowKit Go.Shelf

def dysL (l : List PgV) : List Int := l.map fun p => numI p.y p.m p.d
def OrdK (l : List PgV) (k : Nat) : Prop := ∀ (i : Nat) p q, i + 1 < k → l[i]? = some p → l[i + 1]? = some q → numI p.y p.m p.d < numI q.y q.m q.d
structure NwI (w : World) (bk H : Nat) (vp vs vd : Value) (lp : List PgV) (ls : List StarV) (k : Nat) (W : World) (d : Ext) : Prop where
  size : W.heap.size = H
  below : Below w.heap.size w W
  bk0 : w.heap.size ≤ bk
  bk1 : bk < H
  c0 : W.cell? ⟨bk, 0, none⟩ = some vd
  c1 : W.cell? ⟨bk, 1, none⟩ = some vp
  c2 : W.cell? ⟨bk, 2, none⟩ = some vs
  fz : W.frozen? ⟨bk, 0, none⟩ = false
  row : Ow (bw W d) H vd ((dysL lp).take k)
  pgs : PgsD (fun b => w.heap.size ≤ b ∧ b ≠ bk) W vp lp
  sts : SlG stR W vs ls
  stb : Blk (fun b => w.heap.size ≤ b ∧ b ≠ bk) vs
theorem NwI.step {w : World} {bk H : Nat} {vp vs vd : Value} {lp : List PgV} {ls : List StarV} {k : Nat} {W : World} {d : Ext} (h : NwI w bk H vp vs vd lp ls k W d) {vd' : Value} {d' : Ext} {k' : Nat} (hr : Ow (bw W d') H vd' ((dysL lp).take k')) :
    NwI w bk H vp vs vd' lp ls k' (W.setCell ⟨bk, 0, none⟩ vd') d' := by
  have hb : bk < W.heap.size := by rw [h.size]; exact h.bk1
  have ho : ∀ b, (w.heap.size ≤ b ∧ b ≠ bk) → b < W.heap.size → (W.setCell ⟨bk, 0, none⟩ vd').heap[b]? = W.heap[b]? := fun b hb _ => heap_setCell_other _ ⟨bk, 0, none⟩ b _ hb.2
  refine ⟨by rw [World.size_setCell]; exact h.size, h.below.setCell h.bk0 _, h.bk0, h.bk1, World.cell?_setCell_same _ _ _ h.c0, ?_, ?_, ?_, ?_, ?_, ?_, h.stb⟩
  · exact (World.cell?_setCell_other _ _ _ _ (by intro e; cases e)).trans h.c1
  · exact (World.cell?_setCell_other _ _ _ _ (by intro e; cases e)).trans h.c2
  · rw [World.frozen?_setCell]; exact h.fz
  · rw [← bw_setCell W d' bk 0 vd' hb]
    exact ⟨ownsRow_setCell_below hr.1 h.bk1 _, hr.2⟩
  · exact h.pgs.keep (by rw [World.size_setCell]; exact Nat.le_refl _) ho
  · exact slG_keep h.sts h.stb (by rw [World.size_setCell]; exact Nat.le_refl _) ho
structure BkA (w : World) (bk : Nat) (lp : List PgV) (ls : List StarV) (W : World) : Prop where
  bk0 : w.heap.size ≤ bk
  ex : ∃ vd vp vs, Bk W bk vd vp vs ∧ Sl W vd (dysL lp) ∧ Blk (fun b => w.heap.size ≤ b ∧ b ≠ bk) vd ∧ PgsD (fun b => w.heap.size ≤ b ∧ b ≠ bk) W vp lp ∧ SlG stR W vs ls ∧ Blk (fun b => w.heap.size ≤ b ∧ b ≠ bk) vs
theorem ow_blk {W : World} {H : Nat} {v : Value} {l : List Int} (h : Ow W H v l) : Blk (fun b => H ≤ b) v := fun b o n c e hn => by
  rcases h.1.2 with ⟨h1, _⟩ | ⟨g, cap, cur, h1, h2, _⟩
  · rw [h1] at e; cases e
  · rw [h1] at e; cases e; exact h2
end Go.Proofs.YtnnmfdeeicpdlaaGreat
/- The blocks that a reading met lie in the world. -/
namespace Go.Proofs.YtnnmfdeeicpdlaaGreat
open Go.RowKit

end Go.Proofs.YtnnmfdeeicpdlaaGreat
/- almanac.New in full. -/
namespace Go.Proofs.YtnnmfdeeicpdlaaGreat
open Go.RowKit Go.Shelf

noncomputable def twB (lp : List PgV) (ls : List StarV) : Bool := Lib.containsS (tkL lp) ariesS || ls.any (fun x => twS (tkL lp) x.s)
theorem NwI.book {w : World} {bk H : Nat} {vp vs vd : Value} {lp : List PgV} {ls : List StarV} {k : Nat} {W : World} {d : Ext} (h : NwI w bk H vp vs vd lp ls k W d) (hk : lp.length ≤ k) (A : List (Obj ⊕ Ext)) {z : Ext} (hz : lay W (A ++ [.inr d]) = bw w z) : BkA w bk lp ls (bw w z) := by
  rw [← hz]
  have hr := h.row
  rw [List.take_of_length_le (by unfold dysL; rw [List.length_map]; exact hk)] at hr
  have hS : w.heap.size ≤ H := by rw [← h.size]; exact h.below.size
  exact ⟨h.bk0, vd, vp, vs, (show Bk W bk vd vp vs from ⟨by rw [h.size]; exact h.bk1, h.c0, h.c1, h.c2⟩).lay _, sl_on (A := A) (B := [.inr d]) hr.sl, (ow_blk hr).mono fun b hb => ⟨Nat.le_trans hS hb, by have := h.bk1; omega⟩, h.pgs.lay _, h.sts.lay _, h.stb⟩
end Go.Proofs.YtnnmfdeeicpdlaaGreat
/- The reference's New in full. -/
namespace Go.Proofs.YtnnmfdeeicpdlaaGreat
open Go.RowKit Go.Shelf

end Go.Proofs.YtnnmfdeeicpdlaaGreat

/- Contracts and plain laws, several texts in one: Rbd; Cln2; Cpy0; MixS -/
import Derived.Test.YtlkphcjlgbimkaaGreatProg
import Derived.WalkKit
import Derived.WalkSpells
import Derived.WalkLawsBesides
import Derived.Lib.Hide
import Derived.BigQuiet
import Derived.Test.YtlkphcjlgbimkaaGreatBAA
import Derived.Test.YtlkphcjlgbimkaaGreatBAB
import Derived.Test.YtlkphcjlgbimkaaGreatBAG
import Derived.Test.YtlkphcjlgbimkaaGreatBAJ
import Derived.Test.YtlkphcjlgbimkaaGreatBAL
import Derived.Test.YtlkphcjlgbimkaaGreatBAN
/- The reference's bodies. -/
namespace Go.Proofs.YtlkphcjlgbimkaaGreat
open Go.RowKit Go.Sort

set_option maxHeartbeats 1000000 in
set_option maxRecDepth 100000 in
theorem ref17_Bodies {P : Nat → Prop} (vp vs : Value) (lp : List PgV) (l : List StarV) (w : World) (hp : PgsD P w vp lp) (hF : Few lp) (hv : SlG stR w vs l) (hl : l.length ≤ 1000000) :
    Calls Tryz.prog 34 #[.agg #[vp, vs]] w (StrOwn w ([ariesS] ++ tkL lp ++ l.map StarV.s)) := by
  obtain ⟨T, hT⟩ : ∃ T, tkL lp = T := ⟨_, rfl⟩
  have HT1 : Hid (T.length ≤ 1000000) := Lib.hid (by
    rw [← hT]
    have h1 := onceS_len ((nmsL lp).map ofB)
    rw [List.length_map] at h1
    have h2 := few_nms hF
    unfold tkL; rw [List.length_map]; omega)
  have HT := Lib.hid (fun L => ref17_Tracked vp vs lp (lay w L) (hp.lay L) hF)
  rw [hT] at HT ⊢
  have HL := Lib.hid hl
  obtain ⟨va, vc, rfl⟩ := hv.form
  have HV := Lib.hid hv
  obtain ⟨m, hm⟩ : ∃ m, l.length = m := ⟨_, rfl⟩
  have HM := Lib.hid hm
  have HW := Lib.hid hv.wf
  rw [hm] at HV HT HL ⊢
  obtain ⟨F, hFe⟩ : ∃ F, [ariesS] ++ T ++ l.map StarV.s = F := ⟨_, rfl⟩
  have HFe := Lib.hid hFe
  rw [hFe]
  clear hl hv hp hF hT hm hFe
  refine lay_start ?_
  go_enter Tryz.func34, Tryz.ntmps34
  go_wp2_with fail
  refine (HT.out _).mono ?_
  rintro e w' ⟨A, c, d1, rfl, rfl, hA, hS⟩
  rw [lay_bw] at hS ⊢
  have HS := Lib.hid hS
  have HA := Lib.hid hA
  clear hS hA
  go_wp2_with (at_builtin; refine push_slG strOk rfl _ _ rfl (lay w [.inl (.cells #[vp, .slice va m vc] 32 (0, 0))]) _ _ [ariesS] A T.length c T (lay_belowG (A := [_, _]) (B := [.inl (.cells #[vp, .slice va m vc] 32 (0, 0))])) (owG_on (A := [_]) (owG_lit strOk [ariesS] (str_flat1 _) (by decide) aries_wf)) HS.out HA.out rfl rfl (by have := HT1.out; simp only [List.length_cons, List.length_nil]; omega) ?_; intro v2 d2 hv2)
  obtain ⟨Q0, hQ0⟩ : ∃ Q0, Q0 = [ariesS] ++ T := ⟨_, rfl⟩
  have HQ0 := Lib.hid hQ0
  rw [← hQ0] at hv2
  have H2 := Lib.hid hv2
  obtain ⟨v2a, v2c, rfl⟩ := hv2.form
  clear hv2 hQ0
  generalize Q0.length = n0 at *
  go_wp2_with fail
  go_loopw [3, 4] (fun v3 v4 wr => ∃ (i : Nat) (d : Ext), i ≤ m ∧ v4 = .int .i64 (i : Int) ∧ wr = lay w [.inr d, .inl (.cells #[vp, .slice va m vc] 32 (0, 0))] ∧ OwG strR (lay w [.inr d, .inl (.cells #[vp, .slice va m vc] 32 (0, 0))]) (lay w [.inl (.cells #[vp, .slice va m vc] 32 (0, 0))]).heap.size v3 (Q0 ++ (l.take i).map StarV.s)) (fun _ v4 _ => m - (intOf v4).toNat)
  case atStart => exact ⟨0, d2, Nat.zero_le _, rfl, rfl, by have h := H2.out; rw [← List.append_nil Q0] at h; exact h⟩
  case round =>
    clear H2 HS HA
    obtain ⟨i, d, hi, rfl, rfl, hO⟩ := hrel
    have HO := Lib.hid hO
    clear hO
    by_cases hlt : i < m
    · obtain ⟨x, hx⟩ : ∃ x, l[i]? = some x := ⟨_, List.getElem?_eq_getElem (by rw [HM.out]; exact hlt)⟩
      obtain ⟨bs, os, cs, hvs, hcs, hbs, hr⟩ := HV.out.open (by rw [HM.out]; omega)
      rw [HM.out] at hvs hcs
      cases hvs
      have e0 : w.cell? ⟨bs, os + i * 4, none⟩ = some (.string x.s) := hr i x hx 0 _ rfl
      have e1 : w.cell? ⟨bs, os + i * 4 + 1, none⟩ = some (.int .i64 x.sha) := hr i x hx 1 _ rfl
      have e2 : w.cell? ⟨bs, os + i * 4 + 2, none⟩ = some (.int .i64 x.dec) := hr i x hx 2 _ rfl
      have e3 : w.cell? ⟨bs, os + i * 4 + 3, none⟩ = some (.int .i64 x.mag) := hr i x hx 3 _ rfl
      have x1 : (i : Int) < (m : Int) := by omega
      have x0 : (0 : Int) ≤ (i : Int) := by omega
      have HWx := Lib.hid (HW.out x (List.mem_of_getElem? hx)).1
      have HLn : Hid ((Q0 ++ (l.take i).map StarV.s).length ≤ 1000000000) := Lib.hid (by have h1 := HT1.out; have h2 := HL.out; rw [HQ0.out]; simp only [List.length_append, List.length_map, List.length_take, List.length_cons, List.length_nil]; omega)
      have HN : Hid (Q0 ++ (l.take i).map StarV.s ++ [x.s] = Q0 ++ (l.take (i + 1)).map StarV.s) := Lib.hid (by rw [List.take_add_one, hx]; simp)
      clear hx hr
      generalize hQ : Q0 ++ (l.take i).map StarV.s = Q at *
      clear hQ
      obtain ⟨xs, xa, xb, xc⟩ := x
      dsimp only at e0 e1 e2 e3 HWx HN
      go_wp2_with (at_builtin; refine push_rec strOk rfl _ _ rfl (lay w [.inl (.cells #[vp, .slice (some ⟨bs, os, none⟩) m vc] 32 (0, 0))]) _ xs #[.string xs] 9 (posn w [d.n, 1]) _ Q (lay_belowG (A := [_, _]) (B := [_])) (owG_on (A := [_]) HO.out) (lay_get w _ 0 _ rfl) rfl rfl rfl HLn.out HWx.out ?_; intro v3 d3 hv3)
      have H3 := Lib.hid hv3
      clear hv3
      go_wp2_with fail
      go_roundw
      case rel =>
        exact ⟨i + 1, d3, by omega, by go_num, rfl, by have h3 := H3.out; rw [HN.out] at h3; exact h3⟩
      case measure => simp [intOf]; omega
    · obtain rfl : i = m := by omega
      have x1 : ¬ (i : Int) < (i : Int) := by omega
      have HN : Hid (l.take i = l) := Lib.hid (by rw [← HM.out]; exact List.take_length)
      rw [HN.out] at HO
      go_wp2_with fail
      go_ret
      obtain ⟨d9, hd9⟩ := lay_ex w [.inr d, .inl (.cells #[vp, .slice va i vc] 32 (0, 0))]
      have h := HO.out.le (lay_extends w _).size
      rw [HQ0.out, HFe.out] at h
      refine ⟨_, d9, rfl, hd9, ?_⟩
      rw [← hd9]
      exact h
end Go.Proofs.YtlkphcjlgbimkaaGreat
/- slices.Clone at tracks, pages, ints. -/
namespace Go.Proofs.YtlkphcjlgbimkaaGreat
open Go.RowKit

set_option maxRecDepth 100000 in
theorem cln_Track (v : Value) (l : List TkW) (w : World) (hv : SlG tkR w v l) (hn : l.length ≤ 1000000000) :
    Calls Tryz.prog 43 #[v] w (ClnPost tkR w l) := by
  unfold ClnPost
  by_cases hz : l = []
  · subst hz
    obtain ⟨a, c, rfl⟩ := hv.form
    cases a with
    | none =>
      refine lay_start ?_
      have qT : ∀ (w : World) (a : Option Addr) (n c : Nat), (binOp .eql 51 (.slice a n c) (.slice none 0 0)).run Tryz.prog w = .ok (.bool a.isNone) w := fun w a n c => Lib.run_eql_slice_nil w _ _ a n c 0 0 tkOk.und
      go_enter Tryz.func43, Tryz.ntmps43
      go_wp2_with fail
      go_ret
      exact ⟨_, noExt _, rfl, (bw_noExt _).symm, OwG.nil _ _ _⟩
    | some a =>
      refine lay_start ?_
      have HV := Lib.hid (fun L => hv.lay L)
      have qT : ∀ (w : World) (a : Option Addr) (n c : Nat), (binOp .eql 51 (.slice a n c) (.slice none 0 0)).run Tryz.prog w = .ok (.bool a.isNone) w := fun w a n c => Lib.run_eql_slice_nil w _ _ a n c 0 0 tkOk.und
      go_enter Tryz.func43, Tryz.ntmps43
      go_wp2_with (at_builtin; refine push_slG tkOk rfl _ _ rfl (lay w []) _ _ _ (some a) 0 c [] (lay_belowG (A := [_]) (B := [])) (owG_empty' _ (A := []) (B := []) (L := [])) (HV.out _) (fun h => by cases h) rfl rfl (by simp) ?_; intro v' d' hv')
      obtain ⟨va, vc, hve⟩ := hv'.form
      have H' := Lib.hid hv'
      subst hve
      clear hv'
      go_wp2_with fail
      go_ret
      exact ⟨_, d', rfl, rfl, H'.out⟩
  · obtain ⟨b, o, cap, rfl, hc, hb, hr⟩ := hv.open (List.length_pos_iff.2 hz)
    have HV := Lib.hid (fun L => hv.lay L)
    have HN := Lib.hid hn
    clear hr hv hz
    refine lay_start ?_
    have qT : ∀ (w : World) (a : Option Addr) (n c : Nat), (binOp .eql 51 (.slice a n c) (.slice none 0 0)).run Tryz.prog w = .ok (.bool a.isNone) w := fun w a n c => Lib.run_eql_slice_nil w _ _ a n c 0 0 tkOk.und
    go_enter Tryz.func43, Tryz.ntmps43
    go_wp2_with (at_builtin; refine push_slG tkOk rfl _ _ rfl (lay w []) _ _ [] (some ⟨b, o, none⟩) l.length cap l (lay_belowG (A := [_]) (B := [])) (owG_empty' _ (A := []) (B := []) (L := [])) (HV.out _) (fun h => by cases h) rfl rfl (by simpa using HN.out) ?_; intro v' d' hv')
    obtain ⟨va, vc, hve⟩ := hv'.form
    have H' := Lib.hid hv'
    subst hve
    clear hv'
    go_wp2_with fail
    go_ret
    exact ⟨_, d', rfl, rfl, H'.out⟩
set_option maxRecDepth 100000 in
theorem cln_Page (v : Value) (l : List PgW) (w : World) (hv : SlG pgR w v l) (hn : l.length ≤ 1000000000) :
    Calls Tryz.prog 42 #[v] w (ClnPost pgR w l) := by
  unfold ClnPost
  by_cases hz : l = []
  · subst hz
    obtain ⟨a, c, rfl⟩ := hv.form
    cases a with
    | none =>
      refine lay_start ?_
      have qT : ∀ (w : World) (a : Option Addr) (n c : Nat), (binOp .eql 22 (.slice a n c) (.slice none 0 0)).run Tryz.prog w = .ok (.bool a.isNone) w := fun w a n c => Lib.run_eql_slice_nil w _ _ a n c 0 0 pgOk.und
      go_enter Tryz.func42, Tryz.ntmps42
      go_wp2_with fail
      go_ret
      exact ⟨_, noExt _, rfl, (bw_noExt _).symm, OwG.nil _ _ _⟩
    | some a =>
      refine lay_start ?_
      have HV := Lib.hid (fun L => hv.lay L)
      have qT : ∀ (w : World) (a : Option Addr) (n c : Nat), (binOp .eql 22 (.slice a n c) (.slice none 0 0)).run Tryz.prog w = .ok (.bool a.isNone) w := fun w a n c => Lib.run_eql_slice_nil w _ _ a n c 0 0 pgOk.und
      go_enter Tryz.func42, Tryz.ntmps42
      go_wp2_with (at_builtin; refine push_slG pgOk rfl _ _ rfl (lay w []) _ _ _ (some a) 0 c [] (lay_belowG (A := [_]) (B := [])) (owG_empty' _ (A := []) (B := []) (L := [])) (HV.out _) (fun h => by cases h) rfl rfl (by simp) ?_; intro v' d' hv')
      obtain ⟨va, vc, hve⟩ := hv'.form
      have H' := Lib.hid hv'
      subst hve
      clear hv'
      go_wp2_with fail
      go_ret
      exact ⟨_, d', rfl, rfl, H'.out⟩
  · obtain ⟨b, o, cap, rfl, hc, hb, hr⟩ := hv.open (List.length_pos_iff.2 hz)
    have HV := Lib.hid (fun L => hv.lay L)
    have HN := Lib.hid hn
    clear hr hv hz
    refine lay_start ?_
    have qT : ∀ (w : World) (a : Option Addr) (n c : Nat), (binOp .eql 22 (.slice a n c) (.slice none 0 0)).run Tryz.prog w = .ok (.bool a.isNone) w := fun w a n c => Lib.run_eql_slice_nil w _ _ a n c 0 0 pgOk.und
    go_enter Tryz.func42, Tryz.ntmps42
    go_wp2_with (at_builtin; refine push_slG pgOk rfl _ _ rfl (lay w []) _ _ [] (some ⟨b, o, none⟩) l.length cap l (lay_belowG (A := [_]) (B := [])) (owG_empty' _ (A := []) (B := []) (L := [])) (HV.out _) (fun h => by cases h) rfl rfl (by simpa using HN.out) ?_; intro v' d' hv')
    obtain ⟨va, vc, hve⟩ := hv'.form
    have H' := Lib.hid hv'
    subst hve
    clear hv'
    go_wp2_with fail
    go_ret
    exact ⟨_, d', rfl, rfl, H'.out⟩
def ClnInt (w : World) (l : List Int) (e : Ending) (w' : World) : Prop := ∃ A n c d, e = .returned (.slice A n c) ∧ w' = bw w d ∧ LsP (fun b => w.heap.size ≤ b ∧ b < (bw w d).heap.size) (bw w d) (.slice A n c) l
theorem cln_Int {P : Nat → Prop} (v : Value) (l : List Int) (w : World) (h : LsP P w v l) (hl : l.length ≤ 1000000000) :
    Calls Tryz.prog 44 #[v] w (ClnInt w l) := by
  obtain ⟨hs, _⟩ := h
  by_cases hz : l = []
  · subst hz
    obtain ⟨a, c, rfl, -⟩ := hs
    cases a with
    | none =>
      refine (Tryz.slices_Clone_int_nil 0 c w).mono fun e w' ⟨h1, h2⟩ => ⟨none, 0, 0, noExt w, h1, by rw [bw_noExt]; exact h2, Sl.nil _, fun b o n c e hn => by cases e⟩
    | some a =>
      refine (Tryz.slices_Clone_int_zero a c w).mono fun e w' ⟨v', h1, h2, _, h4⟩ => ?_
      obtain ⟨d, rfl⟩ := bw_of h4
      have hO : Ow (bw w d) w.heap.size v' [] := ⟨h2, fun i hi => absurd hi (Nat.not_lt_zero i)⟩
      obtain ⟨a', c', rfl⟩ := hO.form
      exact ⟨_, _, _, d, h1, rfl, hO.sl, fun b o n c e hn => by cases e; exact absurd hn (Nat.lt_irrefl 0)⟩
  · obtain ⟨b, o, cap, rfl, hc, hw, _, hr⟩ := hs.open (List.length_pos_iff.2 hz)
    have := Tryz.slices_Clone_int b o l.length cap l w (Nat.le_refl _) (by omega) hr
    rw [List.take_length] at this
    refine this.mono fun e w' ⟨v', h1, h2, _, h4⟩ => ?_
    obtain ⟨d, rfl⟩ := bw_of h4
    have hO : Ow (bw w d) w.heap.size v' l := ⟨h2, hw⟩
    obtain ⟨g, c', rfl, h5, h6, _⟩ := hO.form1 (List.length_pos_iff.2 hz)
    exact ⟨_, _, _, d, h1, rfl, hO.sl, fun b o n c e _ => by cases e; exact ⟨h5, h6⟩⟩
end Go.Proofs.YtlkphcjlgbimkaaGreat
/- Deep copies of pages: what holds while the copy is made. No function of the program. -/
namespace Go.Proofs.YtlkphcjlgbimkaaGreat
open Go.RowKit

theorem owG_same {α : Type} {R : RecT α} {w w' : World} {base g n c : Nat} {l : List α} (h : OwG R w base (.slice (some ⟨g, 0, none⟩) n c) l) (hk : w'.heap[g]? = w.heap[g]?) : OwG R w' base (.slice (some ⟨g, 0, none⟩) n c) l := by
  refine ⟨⟨h.1.1, h.1.2.imp id ?_⟩, h.2⟩
  rintro ⟨g', cap, cur, e, h1, h2, h3⟩
  cases e
  exact ⟨g, c, cur, rfl, h1, hk.trans h2, h3⟩
theorem heap_set_other {w : World} {g i b : Nat} {v : Value} (h : b ≠ g) : (w.setCell ⟨g, i, none⟩ v).heap[b]? = w.heap[b]? := heap_setCell_other _ ⟨g, i, none⟩ b v h
/-- The outer loop's state: the first i pages are copied. -/
structure CpO (P : Nat → Prop) (w0 : World) (g0 n cap : Nat) (l : List PgV) (i : Nat) (W : World) (ls : List PgW) : Prop where
  own : OwG pgR W w0.heap.size (.slice (some ⟨g0, 0, none⟩) n cap) ls
  len : ls.length = l.length
  sc : ∀ (j : Nat) x p, ls[j]? = some x → l[j]? = some p → x.y = p.y ∧ x.m = p.m ∧ x.d = p.d
  new : ∀ (j : Nat) x p, ls[j]? = some x → l[j]? = some p → j < i → TksD (fun b => w0.heap.size ≤ b ∧ b ≠ g0 ∧ b < W.heap.size) W (.slice x.ta x.tn x.tc) p.ts
  old : ∀ (j : Nat) x p, ls[j]? = some x → l[j]? = some p → i ≤ j → TksD P W (.slice x.ta x.tn x.tc) p.ts
/-- The inner loop's state: page i is at its track k; S the size of the heap when the row of tracks was made. -/
structure CpI (P : Nat → Prop) (w0 : World) (g0 n cap : Nat) (l : List PgV) (i S : Nat) (v2 : Value) (p : PgV) (k : Nat) (W : World) (ls : List PgW) (lt : List TkW) : Prop where
  own : OwG pgR W w0.heap.size (.slice (some ⟨g0, 0, none⟩) n cap) ls
  len : ls.length = l.length
  sc : ∀ (j : Nat) x p, ls[j]? = some x → l[j]? = some p → x.y = p.y ∧ x.m = p.m ∧ x.d = p.d
  new : ∀ (j : Nat) x p, ls[j]? = some x → l[j]? = some p → j < i → TksD (fun b => w0.heap.size ≤ b ∧ b ≠ g0 ∧ b < S) W (.slice x.ta x.tn x.tc) p.ts
  old : ∀ (j : Nat) x p, ls[j]? = some x → l[j]? = some p → i < j → TksD P W (.slice x.ta x.tn x.tc) p.ts
  at_ : ∃ x, ls[i]? = some x ∧ v2 = .slice x.ta x.tn x.tc
  pg : l[i]? = some p
  sS : S ≤ W.heap.size
  gS : g0 < S
  row : OwG tkR W S v2 lt
  tlen : lt.length = p.ts.length
  tsc : ∀ (j : Nat) x t, lt[j]? = some x → p.ts[j]? = some t → x.s = t.s ∧ x.p = t.p ∧ x.q = t.q ∧ x.r = t.r
  tnew : ∀ (j : Nat) x t, lt[j]? = some x → p.ts[j]? = some t → j < k → LsP (fun b => S ≤ b ∧ b < W.heap.size ∧ ∀ g, v2.ownBlock = some g → b ≠ g) W (.slice x.ga x.gn x.gc) t.g ∧ LsP (fun b => S ≤ b ∧ b < W.heap.size ∧ ∀ g, v2.ownBlock = some g → b ≠ g) W (.slice x.da x.dn x.dc) t.d
  told : ∀ (j : Nat) x t, lt[j]? = some x → p.ts[j]? = some t → k ≤ j → LsP P W (.slice x.ga x.gn x.gc) t.g ∧ LsP P W (.slice x.da x.dn x.dc) t.d
theorem own_blk {g n c : Nat} : (Value.slice (some ⟨g, 0, none⟩) n c).ownBlock = some g := rfl
/-- Behind the inner loop page i is copied. -/
theorem CpI.done {P : Nat → Prop} {w0 : World} {g0 n cap : Nat} {l : List PgV} {i S : Nat} {v2 : Value} {p : PgV} {k : Nat} {W : World} {ls : List PgW} {lt : List TkW}
    (h : CpI P w0 g0 n cap l i S v2 p k W ls lt) (hk : p.ts.length ≤ k) (hS : w0.heap.size ≤ S) : CpO P w0 g0 n cap l (i + 1) W ls := by
  refine ⟨h.own, h.len, h.sc, fun j x q hx hq hj => ?_, fun j x q hx hq hj => h.old j x q hx hq (by omega)⟩
  by_cases e : j = i
  · subst e
    obtain ⟨x', hx', hv⟩ := h.at_
    rw [hx] at hx'
    cases hx'
    have hp := h.pg
    rw [hq] at hp
    cases hp
    rw [← hv]
    refine ⟨lt, h.row.sl tkOk, ?_, h.tlen, fun j2 y t hy ht => ?_⟩
    · intro b o n' c e hn
      have hform := h.row
      have hlen : 0 < lt.length := by
        obtain ⟨a, c', e'⟩ := hform.form
        rw [e] at e'
        cases e'
        exact hn
      obtain ⟨g, c', e', h1, h2, _⟩ := hform.form1 hlen
      rw [e] at e'
      cases e'
      have := h.gS
      exact ⟨by omega, by omega, h2⟩
    · have hj2 : j2 < k := by have := (List.getElem?_eq_some_iff.1 ht).1; omega
      obtain ⟨s1, s2, s3, s4⟩ := h.tsc j2 y t hy ht
      obtain ⟨t1, t2⟩ := h.tnew j2 y t hy ht hj2
      have := h.gS
      exact ⟨s1, t1.mono fun b hb => ⟨by omega, by omega, hb.2.1⟩, t2.mono fun b hb => ⟨by omega, by omega, hb.2.1⟩, s2, s3, s4⟩
  · exact (h.new j x q hx hq (by omega)).mono fun _ hb => ⟨hb.1, hb.2.1, Nat.lt_of_lt_of_le hb.2.2 h.sS⟩
/-- The row of tracks of page i is cloned and put into the page. -/
theorem CpO.enter {P : Nat → Prop} {w0 : World} {g0 n cap : Nat} {l : List PgV} {i : Nat} {W : World} {ls : List PgW} (h : CpO P w0 g0 n cap l i W ls) (hP : ∀ b, P b → b < w0.heap.size) {x : PgW} {p : PgV}
    (hx : ls[i]? = some x) (hp : l[i]? = some p) {d : Ext} {a2 : Option Addr} {n2 c2 : Nat} {lt : List TkW} (hg : w0.heap.size ≤ g0) (hgW : g0 < W.heap.size)
    (hlt : SlG tkR W (.slice x.ta x.tn x.tc) lt) (hlen : lt.length = p.ts.length) (hD : ∀ (j : Nat) y t, lt[j]? = some y → p.ts[j]? = some t → TkD P W y t)
    (hrow : OwG tkR (bw W d) W.heap.size (.slice a2 n2 c2) lt) :
    CpI P w0 g0 n cap l i W.heap.size (.slice a2 n2 c2) p 0 ((bw W d).setCell ⟨g0, i * 4 + 3, none⟩ (.slice a2 n2 c2)) (ls.set i { x with ta := a2, tn := n2, tc := c2 }) lt := by
  have hil : i < ls.length := (List.getElem?_eq_some_iff.1 hx).1
  have hsz : ((bw W d).setCell ⟨g0, i * 4 + 3, none⟩ (.slice a2 n2 c2)).heap.size = (bw W d).heap.size := World.size_setCell _ _ _
  have hle := bw_le W d
  have hne : ∀ b, b ≠ g0 → b < W.heap.size → ((bw W d).setCell ⟨g0, i * 4 + 3, none⟩ (.slice a2 n2 c2)).heap[b]? = W.heap[b]? := fun b hb hlt => (heap_set_other hb).trans (bw_get W d b hlt)
  have hset : ∀ (j : Nat) y, (ls.set i { x with ta := a2, tn := n2, tc := c2 })[j]? = some y → j ≠ i → ls[j]? = some y := fun j y hy hj => by
    rw [List.getElem?_set_ne (by omega)] at hy; exact hy
  refine ⟨?_, by rw [List.length_set]; exact h.len, fun j y q hy hq => ?_, fun j y q hy hq hj => ?_, fun j y q hy hq hj => ?_, ⟨_, by rw [List.getElem?_set_self hil], rfl⟩, hp, by rw [hsz]; exact hle, hgW, ?_, hlen,
    fun j y t hy ht => ⟨(hD j y t hy ht).s, (hD j y t hy ht).p, (hD j y t hy ht).q, (hD j y t hy ht).r⟩, fun j y t hy ht hj => absurd hj (Nat.not_lt_zero j), fun j y t hy ht _ => ?_⟩
  · exact owG_store pgOk (h.own.bw d) (j := 3) hx (by decide) rfl (h.own.2 x (List.mem_of_getElem? hx))
  · by_cases e : j = i
    · subst e
      rw [List.getElem?_set_self hil] at hy
      cases hy
      exact h.sc j x q hx hq
    · exact h.sc j y q (hset j y hy e) hq
  · refine (h.new j y q (hset j y hy (by omega)) hq hj).keep (by rw [hsz]; exact hle) fun b hb hb2 => hne b hb.2.1 hb2
  · refine (h.old j y q (hset j y hy (by omega)) hq (by omega)).keep (by rw [hsz]; exact hle) fun b hb hb2 => hne b (by have := hP b hb; omega) hb2
  · by_cases hz : lt = []
    · subst hz
      rcases hrow.1.2 with ⟨e, hz⟩ | ⟨g, cap', cur, e, h1, h2, h3⟩
      · rw [e]; exact OwG.nil _ _ _
      · rw [e] at hrow ⊢
        exact owG_same hrow (heap_set_other (by omega))
    · obtain ⟨g, c', e, h1, _⟩ := hrow.form1 (List.length_pos_iff.2 hz)
      rw [e] at hrow ⊢
      exact owG_same hrow (heap_set_other (by omega))
  · have hk := hD j y t hy ht
    exact ⟨hk.g.keep (by rw [hsz]; exact hle) fun b hb hb2 => hne b (by have := hP b hb; omega) hb2, hk.d.keep (by rw [hsz]; exact hle) fun b hb hb2 => hne b (by have := hP b hb; omega) hb2⟩
/-- The two lists of track k are cloned and put into the track. -/
theorem CpI.step {P : Nat → Prop} {w0 : World} {g0 n cap : Nat} {l : List PgV} {i S g1 n1 c1 : Nat} {p : PgV} {k : Nat} {W : World} {ls : List PgW} {lt : List TkW}
    (h : CpI P w0 g0 n cap l i S (.slice (some ⟨g1, 0, none⟩) n1 c1) p k W ls lt) (hP : ∀ b, P b → b < w0.heap.size) (hS : w0.heap.size ≤ S) {x : TkW} {t : TrkV} (hx : lt[k]? = some x) (ht : p.ts[k]? = some t) (hg1 : S ≤ g1) (hg1W : g1 < W.heap.size)
    {d : Ext} {A B : Option Addr} {nA cA nB cB : Nat}
    (hA : LsP (fun b => W.heap.size ≤ b ∧ b < (bw W d).heap.size) (bw W d) (.slice A nA cA) t.g) (hB : LsP (fun b => W.heap.size ≤ b ∧ b < (bw W d).heap.size) (bw W d) (.slice B nB cB) t.d) :
    CpI P w0 g0 n cap l i S (.slice (some ⟨g1, 0, none⟩) n1 c1) p (k + 1) (((bw W d).setCell ⟨g1, k * 6 + 1, none⟩ (.slice A nA cA)).setCell ⟨g1, k * 6 + 2, none⟩ (.slice B nB cB)) ls (lt.set k { x with ga := A, gn := nA, gc := cA, da := B, dn := nB, dc := cB }) := by
  have hkl : k < lt.length := (List.getElem?_eq_some_iff.1 hx).1
  obtain ⟨W2, hW2⟩ : ∃ W2, W2 = ((bw W d).setCell ⟨g1, k * 6 + 1, none⟩ (.slice A nA cA)).setCell ⟨g1, k * 6 + 2, none⟩ (.slice B nB cB) := ⟨_, rfl⟩
  have hsz : W2.heap.size = (bw W d).heap.size := by rw [hW2, World.size_setCell, World.size_setCell]
  have hle := bw_le W d
  have hfar : ∀ b, b ≠ g1 → W2.heap[b]? = (bw W d).heap[b]? := fun b hb => by rw [hW2]; exact (heap_set_other hb).trans (heap_set_other hb)
  have hne : ∀ b, b ≠ g1 → b < W.heap.size → W2.heap[b]? = W.heap[b]? := fun b hb hlt => (hfar b hb).trans (bw_get W d b hlt)
  have hgS := h.gS
  have hrow : OwG tkR W2 S (.slice (some ⟨g1, 0, none⟩) n1 c1) (lt.set k { x with ga := A, gn := nA, gc := cA, da := B, dn := nB, dc := cB }) := by
    have r1 := owG_store tkOk (h.row.bw d) (j := 1) (y := { x with ga := A, gn := nA, gc := cA }) (u := .slice A nA cA) hx (by decide) rfl (h.row.2 x (List.mem_of_getElem? hx))
    have r2 := owG_store tkOk r1 (i := k) (j := 2) (x := { x with ga := A, gn := nA, gc := cA }) (y := { x with ga := A, gn := nA, gc := cA, da := B, dn := nB, dc := cB }) (u := .slice B nB cB) (by rw [List.getElem?_set_self hkl]) (by decide) rfl (h.row.2 x (List.mem_of_getElem? hx))
    rw [List.set_set] at r2
    rw [hW2]; exact r2
  rw [← hW2]
  have hset : ∀ (j : Nat) y, (lt.set k { x with ga := A, gn := nA, gc := cA, da := B, dn := nB, dc := cB })[j]? = some y → j ≠ k → lt[j]? = some y := fun j y hy hj => by
    rw [List.getElem?_set_ne (by omega)] at hy; exact hy
  have fresh : ∀ {v : Value} {m : List Int}, LsP (fun b => W.heap.size ≤ b ∧ b < (bw W d).heap.size) (bw W d) v m → LsP (fun b => S ≤ b ∧ b < W2.heap.size ∧ ∀ g, (Value.slice (some ⟨g1, 0, none⟩) n1 c1).ownBlock = some g → b ≠ g) W2 v m := fun hv => by
    have h1 := hv.keep (w' := W2) (by rw [hsz]; exact Nat.le_refl _) fun b hb _ => hfar b (by omega)
    exact h1.mono fun b hb => ⟨by have := h.sS; omega, by rw [hsz]; exact hb.2, fun g e => by rw [own_blk] at e; cases e; omega⟩
  refine ⟨?_, h.len, h.sc, fun j y q hy hq hj => ?_, fun j y q hy hq hj => ?_, h.at_, h.pg, by rw [hsz]; have := h.sS; omega, hgS, hrow, by rw [List.length_set]; exact h.tlen, fun j y q hy hq => ?_, fun j y q hy hq hj => ?_, fun j y q hy hq hj => ?_⟩
  · exact owG_same (h.own.bw d) (hfar g0 (by omega))
  · exact (h.new j y q hy hq hj).keep (by rw [hsz]; exact hle) fun b hb hb2 => hne b (by omega) hb2
  · exact (h.old j y q hy hq hj).keep (by rw [hsz]; exact hle) fun b hb hb2 => hne b (by have := hP b hb; omega) hb2
  · by_cases e : j = k
    · subst e
      rw [List.getElem?_set_self hkl] at hy
      cases hy
      exact h.tsc j x q hx hq
    · exact h.tsc j y q (hset j y hy e) hq
  · by_cases e : j = k
    · subst e
      rw [List.getElem?_set_self hkl] at hy
      cases hy
      rw [ht] at hq
      cases hq
      exact ⟨fresh hA, fresh hB⟩
    · obtain ⟨t1, t2⟩ := h.tnew j y q (hset j y hy e) hq (by omega)
      have kp : ∀ {v : Value} {m : List Int}, LsP (fun b => S ≤ b ∧ b < W.heap.size ∧ ∀ g, (Value.slice (some ⟨g1, 0, none⟩) n1 c1).ownBlock = some g → b ≠ g) W v m → LsP (fun b => S ≤ b ∧ b < W2.heap.size ∧ ∀ g, (Value.slice (some ⟨g1, 0, none⟩) n1 c1).ownBlock = some g → b ≠ g) W2 v m := fun hv =>
        (hv.keep (w' := W2) (by rw [hsz]; exact hle) fun b hb hb2 => hne b (hb.2.2 g1 rfl) hb2).mono fun b hb => ⟨hb.1, by rw [hsz]; omega, hb.2.2⟩
      exact ⟨kp t1, kp t2⟩
  · obtain ⟨t1, t2⟩ := h.told j y q (hset j y hy (by omega)) hq (by omega)
    exact ⟨t1.keep (by rw [hsz]; exact hle) fun b hb hb2 => hne b (by have := hP b hb; omega) hb2, t2.keep (by rw [hsz]; exact hle) fun b hb hb2 => hne b (by have := hP b hb; omega) hb2⟩
/-- Draws and blocks that are made turn nothing. -/
theorem CpO.bw {P : Nat → Prop} {w0 : World} {g0 n cap : Nat} {l : List PgV} {i : Nat} {W : World} {ls : List PgW} (h : CpO P w0 g0 n cap l i W ls) (d : Ext) : CpO P w0 g0 n cap l i (bw W d) ls :=
  ⟨h.own.bw d, h.len, h.sc, fun j x p hx hp hj => ((h.new j x p hx hp hj).keep (bw_le W d) fun b _ hb => bw_get W d b hb).mono fun _ hb => ⟨hb.1, hb.2.1, Nat.lt_of_lt_of_le hb.2.2 (bw_le W d)⟩,
    fun j x p hx hp hj => (h.old j x p hx hp hj).keep (bw_le W d) fun b _ hb => bw_get W d b hb⟩
theorem CpI.bw {P : Nat → Prop} {w0 : World} {g0 n cap : Nat} {l : List PgV} {i S : Nat} {v2 : Value} {p : PgV} {k : Nat} {W : World} {ls : List PgW} {lt : List TkW} (h : CpI P w0 g0 n cap l i S v2 p k W ls lt) (d : Ext) : CpI P w0 g0 n cap l i S v2 p k (bw W d) ls lt :=
  ⟨h.own.bw d, h.len, h.sc, fun j x p hx hp hj => (h.new j x p hx hp hj).keep (bw_le W d) fun b _ hb => bw_get W d b hb, fun j x p hx hp hj => (h.old j x p hx hp hj).keep (bw_le W d) fun b _ hb => bw_get W d b hb, h.at_, h.pg,
    Nat.le_trans h.sS (bw_le W d), h.gS, h.row.bw d, h.tlen, h.tsc, fun j x t hx ht hj => ⟨((h.tnew j x t hx ht hj).1.keep (bw_le W d) fun b _ hb => bw_get W d b hb).mono fun _ hb => ⟨hb.1, Nat.lt_of_lt_of_le hb.2.1 (bw_le W d), hb.2.2⟩,
      ((h.tnew j x t hx ht hj).2.keep (bw_le W d) fun b _ hb => bw_get W d b hb).mono fun _ hb => ⟨hb.1, Nat.lt_of_lt_of_le hb.2.1 (bw_le W d), hb.2.2⟩⟩,
    fun j x t hx ht hj => ⟨(h.told j x t hx ht hj).1.keep (bw_le W d) fun b _ hb => bw_get W d b hb, (h.told j x t hx ht hj).2.keep (bw_le W d) fun b _ hb => bw_get W d b hb⟩⟩
theorem LsP.bw {P : Nat → Prop} {w : World} {v : Value} {l : List Int} (h : LsP P w v l) (d : Ext) : LsP P (bw w d) v l := h.keep (bw_le w d) fun b _ hb => bw_get w d b hb
/-- Behind the outer loop all is copied. -/
theorem CpO.done {P : Nat → Prop} {w0 : World} {g0 n cap : Nat} {l : List PgV} {i : Nat} {W : World} {ls : List PgW} (h : CpO P w0 g0 n cap l i W ls) (hi : l.length ≤ i) (hg : w0.heap.size ≤ g0) : PgsD (fun b => w0.heap.size ≤ b) W (.slice (some ⟨g0, 0, none⟩) n cap) l := by
  refine ⟨ls, h.own.sl pgOk, fun b o n c e hn => by cases e; exact hg, h.len, fun j x p hx hp => ?_⟩
  obtain ⟨s1, s2, s3⟩ := h.sc j x p hx hp
  exact ⟨s1, s2, s3, (h.new j x p hx hp (by have := (List.getElem?_eq_some_iff.1 hp).1; omega)).mono fun _ hb => hb.1⟩
end Go.Proofs.YtlkphcjlgbimkaaGreat
/- Regions that draw their order and store into memory that was there: a schedule in an order of one's own. Operations: 0: quiet, all of them ahead of the store st; 2: pure (the same value in every world), at any time; 1: it alone may come now (ahead of the store); 3: it alone may come now (the store, or behind it). No program in sight. -/
namespace Go.Proofs.YtlkphcjlgbimkaaGreat
open Go.RowKit

section
variable {P : Program} {md : Region.Mode} {κ : Type} {Cl : κ → World} {l : List Oper} {ops : Array Oper} {st : Nat}

def inS (Cl : κ → World) (st : Nat) (listed : Array Bool) (w : World) : Prop := listed.getD st false = true ∨ ∃ k, w = Cl k
theorem inS_set {listed : Array Bool} {w : World} (i : Nat) (h : inS Cl st listed w) : inS Cl st (listed.setIfInBounds i true) w := by
  rcases h with h | h
  · left
    by_cases e : i = st
    · subst e
      have hlt : i < listed.size := by
        rcases Nat.lt_or_ge i listed.size with h' | h'
        · exact h'
        · simp [Array.getElem?_eq_none h'] at h
      simp [hlt]
    · simp only [Array.getD_eq_getD_getElem?, Array.getElem?_setIfInBounds_ne e] at h ⊢; exact h
  · exact .inr h
theorem inS_other {listed : Array Bool} {w : World} {i : Nat} (j : Nat) (e : i ≠ st) (h : inS Cl st ((listed.setIfInBounds i true).setIfInBounds j true) w) : inS Cl st (listed.setIfInBounds j true) w := by
  rcases h with h | h
  · left
    by_cases hji : j = i
    · subst hji
      simp only [Array.getD_eq_getD_getElem?, Array.getElem?_setIfInBounds_ne e] at h ⊢; exact h
    · rw [Array.setIfInBounds_comm _ _ (fun h => hji h.symm)] at h
      simp only [Array.getD_eq_getD_getElem?] at h ⊢
      rw [Array.getElem?_setIfInBounds_ne e] at h; exact h
  · exact .inr h
theorem inS_bw (hCl : ∀ k d, ∃ k', bw (Cl k) d = Cl k') {listed : Array Bool} {w : World} (d : Ext) (h : inS Cl st listed w) : inS Cl st listed (bw w d) := by
  rcases h with h | ⟨k, rfl⟩
  · exact .inl h
  · exact .inr (hCl k d)

def wpD (P : Program) (md : Region.Mode) (ops : Array Oper) (Cl : κ → World) (st : Nat) (Q : Act → World → Prop) : Nat → Array Bool → Act → World → Prop
  | 0, listed, a, w => Region.ready md ops listed = [] ∧ ∀ d, Q a (bw w d)
  | f + 1, listed, a, w => Region.ready md ops listed ≠ [] ∧ ∀ i ∈ Region.ready md ops listed, ∀ d, oneOp P ops i (fun a' w' => inS Cl st (listed.setIfInBounds i true) w' ∧ wpD P md ops Cl st Q f (listed.setIfInBounds i true) a' w') a (bw w d)
theorem wpD_ext {Q : Act → World → Prop} : ∀ {f : Nat} {listed : Array Bool} {a : Act} {w : World} (d : Ext), wpD P md ops Cl st Q f listed a w → wpD P md ops Cl st Q f listed a (bw w d)
  | 0, _, _, w, d, h => ⟨h.1, fun e => by rw [bw_bw]; exact h.2 _⟩
  | _ + 1, _, _, w, d, h => ⟨h.1, fun i hi e => by rw [bw_bw]; exact h.2 i hi _⟩
theorem wpD_sound {Q' : Exit → Act → World → Prop} : ∀ (f : Nat) (listed : Array Bool) (a : Act) (w : World), wpD P md ops Cl st (fun a w => Q' .normal a w) f listed a w → wpAny P md ops Q' f listed a w
  | 0, listed, a, w, h => ⟨h.1, by have := h.2 (noExt w); rwa [bw_noExt] at this⟩
  | f + 1, listed, a, w, h => by
    refine ⟨fun h0 => absurd h0 h.1, fun i hi => ?_⟩
    have h1 := h.2 i hi (noExt w)
    rw [bw_noExt] at h1
    unfold oneOp at h1
    unfold wpOp
    split
    · rename_i ho; simp only [ho] at h1; exact wpD_sound f _ _ _ h1.2
    · rename_i o ho
      simp only [ho] at h1
      split
      · rename_i hw; rw [if_pos hw] at h1
        exact Or.inl (wp_of_sOp (sOp_mono (fun a w hk => wpD_sound f _ a w hk.2) h1))
      · rename_i hw; rw [if_neg hw] at h1; exact wpD_sound f _ _ _ h1.2

/-- An operation that is pure, or quiet and ahead of the store, may be taken first. -/
theorem wpD_first {i : Nat} {oi : Oper} {v : Value} {Q : Act → World → Prop} (hCl : ∀ k d, ∃ k', bw (Cl k) d = Cl k') (hi : ops[i]? = some oi) (hsel : ∀ (j : Nat) (o : Oper) cs b, ops[j]? = some o → o.op ≠ .select cs b) (hne : i ≠ st) :
    ∀ (f : Nat) (listed : Array Bool) (a : Act) (w : World), inS Cl st listed w →
      (∀ j oj, ops[j]? = some oj → j ≠ i → listed.getD j true = false → (∀ e ∈ oj.after, Region.binds md e = true → e.on ≠ i) → oi.apart ops oj = true) →
      i ∈ Region.ready md ops listed → (YieldsM P ops (fun W : World => W) oi v a ∨ (YieldsM P ops Cl oi v a ∧ listed.getD st false = false ∧ ∃ os, ops[st]? = some os ∧ ∃ e ∈ os.after, Region.binds md e = true ∧ e.on = i)) →
      wpD P md ops Cl st Q f (listed.setIfInBounds i true) (a.put oi.dst v) w → wpD P md ops Cl st Q (f + 1) listed a w := by
  have one : ∀ {listed : Array Bool} {a : Act} {w : World} {K : Act → World → Prop}, inS Cl st listed w →
      (YieldsM P ops (fun W : World => W) oi v a ∨ (YieldsM P ops Cl oi v a ∧ listed.getD st false = false ∧ ∃ os, ops[st]? = some os ∧ ∃ e ∈ os.after, Region.binds md e = true ∧ e.on = i)) →
      K (a.put oi.dst v) w → (∀ d, K (a.put oi.dst v) (bw w d)) → oneOp P ops i K a w := by
    intro listed a w K hw hy h0 h1
    rcases hy with hy | ⟨hy, hs, _⟩
    · exact hy.oneOp hi ⟨w, rfl⟩ h0 h1
    · exact hy.oneOp hi (hw.resolve_left (by rw [hs]; exact Bool.false_ne_true)) h0 h1
  intro f
  induction f with
  | zero =>
    intro listed a w hw _ hr hy H
    refine ⟨List.ne_nil_of_mem hr, fun j hj d => ?_⟩
    by_cases hji : j = i
    · subst hji
      exact one (inS_bw hCl d hw) hy ⟨inS_set _ (inS_bw hCl d hw), wpD_ext d H⟩ (fun e => ⟨inS_set _ (inS_bw hCl e (inS_bw hCl d hw)), wpD_ext e (wpD_ext d H)⟩)
    · have := ready_mono hj hji
      rw [H.1] at this; cases this
  | succ f ih =>
    intro listed a w hw hfree hr hy H
    have hun := (mem_ready.1 hr).1
    refine ⟨List.ne_nil_of_mem hr, fun j hj d => ?_⟩
    by_cases hji : j = i
    · subst hji
      exact one (inS_bw hCl d hw) hy ⟨inS_set _ (inS_bw hCl d hw), wpD_ext d H⟩ (fun e => ⟨inS_set _ (inS_bw hCl e (inS_bw hCl d hw)), wpD_ext e (wpD_ext d H)⟩)
    · have h1 := H.2 j (ready_mono hj hji) d
      obtain ⟨hjun, oj, hoj, hall⟩ := mem_ready.1 hj
      have hunF : listed.getD i false = false := by
        rcases Nat.lt_or_ge i listed.size with h' | h'
        · simp [h'] at hun ⊢; exact hun
        · simp [Array.getElem?_eq_none h'] at hun
      have hnot : ∀ e ∈ oj.after, Region.binds md e = true → e.on ≠ i := fun e he hb heq => by
        have h2 := hall e he hb
        rw [heq, hunF] at h2
        cases h2
      have hap := hfree j oj hoj hji hjun hnot
      have hfree' : ∀ k ok, ops[k]? = some ok → k ≠ i → (listed.setIfInBounds j true).getD k true = false →
          (∀ e ∈ ok.after, Region.binds md e = true → e.on ≠ i) → oi.apart ops ok = true := fun k ok hk hki hu hno => by
        refine hfree k ok hk hki ?_ hno
        by_cases hjk : j = k
        · subst hjk; exact hjun
        · rw [getD_set_ne true hjk] at hu; exact hu
      have fin : ∀ (a' : Act) (w' : World), (YieldsM P ops (fun W : World => W) oi v a' ∨ (YieldsM P ops Cl oi v a' ∧ (listed.setIfInBounds j true).getD st false = false ∧ ∃ os, ops[st]? = some os ∧ ∃ e ∈ os.after, Region.binds md e = true ∧ e.on = i)) →
          inS Cl st ((listed.setIfInBounds i true).setIfInBounds j true) w' → wpD P md ops Cl st Q f ((listed.setIfInBounds i true).setIfInBounds j true) (a'.put oi.dst v) w' →
          inS Cl st (listed.setIfInBounds j true) w' ∧ wpD P md ops Cl st Q (f + 1) (listed.setIfInBounds j true) a' w' := fun a' w' hy' hin hk => by
        have hin' := inS_other j hne hin
        refine ⟨hin', ih (listed.setIfInBounds j true) a' w' hin' hfree' (ready_mono hr (Ne.symm hji)) hy' ?_⟩
        rw [Array.setIfInBounds_comm _ _ hji]
        exact hk
      rcases hy with hy | ⟨hy, hs, hedge⟩
      · have h2 := oneOp_put hoj hap (fun cs b => hsel i oi cs b hi) (fun cs b => hsel j oj cs b hoj) hy h1
        exact oneOp_mono (fun a' w' h3 => fin a' w' (.inl h3.1) h3.2.1 h3.2.2) h2
      · have hjst : j ≠ st := by
          rintro rfl
          obtain ⟨os, hos, e, he, hb, heq⟩ := hedge
          rw [hoj] at hos
          cases hos
          exact hnot e he hb heq
        have hs' : (listed.setIfInBounds j true).getD st false = false := by
          simp only [Array.getD_eq_getD_getElem?, Array.getElem?_setIfInBounds_ne hjst] at hs ⊢; exact hs
        have h2 := oneOp_put hoj hap (fun cs b => hsel i oi cs b hi) (fun cs b => hsel j oj cs b hoj) hy h1
        exact oneOp_mono (fun a' w' h3 => fin a' w' (.inr ⟨h3.1, hs', hedge⟩) h3.2.1 h3.2.2) h2

def wpMS (P : Program) (l : List Oper) (ops : Array Oper) (Cl : κ → World) (Q : Act → World → Prop) : List (Nat × Nat) → Act → World → Prop
  | [], a, w => ∀ d, Q a (bw w d)
  | (i, 0) :: s, a, w => ∃ o, l[i]? = some o ∧ (if Region.wanted o (yielded ops a.tmps) then mOp P Cl o a (fun a' => wpMS P l ops Cl Q s a' w) else wpMS P l ops Cl Q s (a.put o.dst undef) w)
  | (i, 1) :: s, a, w => ∃ o, l[i]? = some o ∧ ∀ d, (if Region.wanted o (yielded ops a.tmps) then sOp P o a (fun a' w' => (∃ k, w' = Cl k) ∧ wpMS P l ops Cl Q s a' w') (bw w d) else (∃ k, bw w d = Cl k) ∧ wpMS P l ops Cl Q s (a.put o.dst undef) (bw w d))
  | (i, 2) :: s, a, w => ∃ o, l[i]? = some o ∧ (if Region.wanted o (yielded ops a.tmps) then mOp P (fun W : World => W) o a (fun a' => wpMS P l ops Cl Q s a' w) else wpMS P l ops Cl Q s (a.put o.dst undef) w)
  | (i, 3) :: s, a, w => ∃ o, l[i]? = some o ∧ ∀ d, (if Region.wanted o (yielded ops a.tmps) then sOp P o a (fun a' w' => wpMS P l ops Cl Q s a' w') (bw w d) else wpMS P l ops Cl Q s (a.put o.dst undef) (bw w d))
  | (_, _ + 4) :: _, _, _ => False
def edgeB (md : Region.Mode) (ops : Array Oper) (st i : Nat) : Bool := match ops[st]? with | none => false | some os => os.after.any fun e => Region.binds md e && decide (e.on = i)
theorem edge_of {i : Nat} (h : edgeB md ops st i = true) : ∃ os, ops[st]? = some os ∧ ∃ e ∈ os.after, Region.binds md e = true ∧ e.on = i := by
  unfold edgeB at h
  cases ho : ops[st]? with
  | none => rw [ho] at h; cases h
  | some os =>
    rw [ho] at h
    obtain ⟨e, he, h2⟩ := Array.any_eq_true'.1 h
    simp only [Bool.and_eq_true, decide_eq_true_eq] at h2
    exact ⟨os, rfl, e, he, h2.1, h2.2⟩
def lexMS (md : Region.Mode) (ops : Array Oper) (st : Nat) : List (Nat × Nat) → Array Bool → Bool
  | [], listed => (Region.ready md ops listed).isEmpty
  | (i, 0) :: s, listed => decide (i ≠ st) && (!listed.getD st false) && edgeB md ops st i && (Region.ready md ops listed).contains i && Region.free md ops listed i && lexMS md ops st s (listed.setIfInBounds i true)
  | (i, 1) :: s, listed => decide (Region.ready md ops listed = [i]) && lexMS md ops st s (listed.setIfInBounds i true)
  | (i, 2) :: s, listed => decide (i ≠ st) && (Region.ready md ops listed).contains i && Region.free md ops listed i && lexMS md ops st s (listed.setIfInBounds i true)
  | (i, 3) :: s, listed => (listed.setIfInBounds i true).getD st false && decide (Region.ready md ops listed = [i]) && lexMS md ops st s (listed.setIfInBounds i true)
  | (_, _ + 4) :: _, _ => false

theorem wpD_of_wpMS {Q : Act → World → Prop} (hCl : ∀ k d, ∃ k', bw (Cl k) d = Cl k') (hl : ∀ j : Nat, l[j]? = ops[j]?) (hsel : Region.noSelect ops = true) :
    ∀ (s : List (Nat × Nat)) (listed : Array Bool) (a : Act) (w : World), inS Cl st listed w → lexMS md ops st s listed = true → wpMS P l ops Cl Q s a w → wpD P md ops Cl st Q s.length listed a w
  | [], listed, a, w, hw, hB, h => by
    simp only [lexMS, List.isEmpty_iff] at hB
    exact ⟨hB, h⟩
  | (k, 0) :: s, listed, a, w, hw, hB, h => by
    simp only [lexMS, Bool.and_eq_true, decide_eq_true_eq, Bool.not_eq_true'] at hB
    obtain ⟨⟨⟨⟨⟨hks, hst⟩, hed⟩, hr⟩, hf⟩, hB'⟩ := hB
    obtain ⟨o, ho, h⟩ := h
    have h0 : ops[k]? = some o := (hl k).symm.trans ho
    have hr' : k ∈ Region.ready md ops listed := by simpa using hr
    have hy : ∃ v, YieldsM P ops Cl o v a ∧ wpMS P l ops Cl Q s (a.put o.dst v) w := by
      by_cases hw1 : Region.wanted o (yielded ops a.tmps) = true
      · rw [if_pos hw1] at h
        obtain ⟨v, h1, h2⟩ := h
        exact ⟨v, .inl ⟨hw1, h1⟩, h2⟩
      · rw [if_neg hw1] at h
        exact ⟨undef, .inr ⟨by simpa using hw1, rfl⟩, h⟩
    obtain ⟨v, hy, hK⟩ := hy
    exact wpD_first hCl h0 (Region.noSelect_spec hsel) hks s.length listed a w hw (Region.free_spec h0 hf) hr' (.inr ⟨hy, hst, edge_of hed⟩) (wpD_of_wpMS hCl hl hsel s _ _ w (inS_set _ hw) hB' hK)
  | (k, 2) :: s, listed, a, w, hw, hB, h => by
    simp only [lexMS, Bool.and_eq_true, decide_eq_true_eq] at hB
    obtain ⟨⟨⟨hks, hr⟩, hf⟩, hB'⟩ := hB
    obtain ⟨o, ho, h⟩ := h
    have h0 : ops[k]? = some o := (hl k).symm.trans ho
    have hr' : k ∈ Region.ready md ops listed := by simpa using hr
    have hy : ∃ v, YieldsM P ops (fun W : World => W) o v a ∧ wpMS P l ops Cl Q s (a.put o.dst v) w := by
      by_cases hw1 : Region.wanted o (yielded ops a.tmps) = true
      · rw [if_pos hw1] at h
        obtain ⟨v, h1, h2⟩ := h
        exact ⟨v, .inl ⟨hw1, h1⟩, h2⟩
      · rw [if_neg hw1] at h
        exact ⟨undef, .inr ⟨by simpa using hw1, rfl⟩, h⟩
    obtain ⟨v, hy, hK⟩ := hy
    exact wpD_first hCl h0 (Region.noSelect_spec hsel) hks s.length listed a w hw (Region.free_spec h0 hf) hr' (.inl hy) (wpD_of_wpMS hCl hl hsel s _ _ w (inS_set _ hw) hB' hK)
  | (k, 1) :: s, listed, a, w, hw, hB, h => by
    simp only [lexMS, Bool.and_eq_true, decide_eq_true_eq] at hB
    obtain ⟨hr, hB'⟩ := hB
    obtain ⟨o, ho, h⟩ := h
    have h0 : ops[k]? = some o := (hl k).symm.trans ho
    refine ⟨by rw [hr]; simp, fun i hi d => ?_⟩
    rw [hr] at hi
    obtain rfl : i = k := by simpa using hi
    have hd := h d
    rw [oneOp_some h0]
    split
    · rename_i hw1; rw [if_pos hw1] at hd
      exact sOp_mono (fun a' w' hk => ⟨.inr hk.1, wpD_of_wpMS hCl hl hsel s _ _ w' (.inr hk.1) hB' hk.2⟩) hd
    · rename_i hw1; rw [if_neg hw1] at hd
      exact ⟨.inr hd.1, wpD_of_wpMS hCl hl hsel s _ _ _ (.inr hd.1) hB' hd.2⟩
  | (k, 3) :: s, listed, a, w, hw, hB, h => by
    simp only [lexMS, Bool.and_eq_true, decide_eq_true_eq] at hB
    obtain ⟨⟨hst, hr⟩, hB'⟩ := hB
    obtain ⟨o, ho, h⟩ := h
    have h0 : ops[k]? = some o := (hl k).symm.trans ho
    refine ⟨by rw [hr]; simp, fun i hi d => ?_⟩
    rw [hr] at hi
    obtain rfl : i = k := by simpa using hi
    have hd := h d
    rw [oneOp_some h0]
    split
    · rename_i hw1; rw [if_pos hw1] at hd
      exact sOp_mono (fun a' w' hk => ⟨.inl hst, wpD_of_wpMS hCl hl hsel s _ _ w' (.inl hst) hB' hk⟩) hd
    · rename_i hw1; rw [if_neg hw1] at hd
      exact ⟨.inl hst, wpD_of_wpMS hCl hl hsel s _ _ _ (.inl hst) hB' hd⟩
  | (_, _ + 4) :: _, _, _, _, _, hB, _ => by simp [lexMS] at hB

/-- The law: the class ahead of the store are the worlds that extend the one at the start. -/
theorem region_mixS {id : Nat} {Q : Exit → Act → World → Prop} {a : Act} {w : World} {l : List Oper} (st : Nat) (s : List (Nat × Nat)) (hm : P.follows .mixedOrders = true) (hsel : Region.noSelect l.toArray = true)
    (hB : lexMS .any l.toArray st s (Array.replicate l.toArray.size false) = true) (hn : s.length = l.toArray.size)
    (h : wpMS P l l.toArray (fun d => bw w d) (fun a w => Q .normal a w) s a w) : (Code.region id l.toArray true).wp P Q a w := by
  refine wp_region_any hm ?_
  have := wpD_of_wpMS (md := .any) (st := st) (fun k d => ⟨_, bw_bw w k d⟩) (fun j => by simp) hsel s _ a w (.inr ⟨noExt w, (bw_noExt w).symm⟩) hB h
  have := wpD_ext (⟨#[], w.drawn + 1⟩ : Ext) this
  rw [← bw_drewExt] at this
  have := wpD_sound (Q' := Q) _ _ _ _ this
  rwa [hn] at this
theorem wpMS_quiet {Q : Act → World → Prop} {a : Act} {w : World} {i : Nat} {o : Oper} {s : List (Nat × Nat)} (ho : l[i]? = some o)
    (h : ∀ K : Act → Prop, (∀ a, wpMS P l ops Cl Q s a w → K a) → if Region.wanted o (yielded ops a.tmps) then mOp P Cl o a K else K (a.put o.dst undef)) : wpMS P l ops Cl Q ((i, 0) :: s) a w :=
  ⟨o, ho, h _ (fun _ h => h)⟩
theorem wpMS_pure {Q : Act → World → Prop} {a : Act} {w : World} {i : Nat} {o : Oper} {s : List (Nat × Nat)} (ho : l[i]? = some o)
    (h : ∀ K : Act → Prop, (∀ a, wpMS P l ops Cl Q s a w → K a) → if Region.wanted o (yielded ops a.tmps) then mOp P (fun W : World => W) o a K else K (a.put o.dst undef)) : wpMS P l ops Cl Q ((i, 2) :: s) a w :=
  ⟨o, ho, h _ (fun _ h => h)⟩
theorem wpMS_special {Q : Act → World → Prop} {a : Act} {w : World} {i : Nat} {o : Oper} {s : List (Nat × Nat)} (ho : l[i]? = some o)
    (h : ∀ (K : Act → World → Prop), (∀ a' w', (∃ k, w' = Cl k) → wpMS P l ops Cl Q s a' w' → K a' w') → ∀ d, if Region.wanted o (yielded ops a.tmps) then sOp P o a K (bw w d) else K (a.put o.dst undef) (bw w d)) : wpMS P l ops Cl Q ((i, 1) :: s) a w :=
  ⟨o, ho, fun d => by
    have := h (fun a' w' => (∃ k, w' = Cl k) ∧ wpMS P l ops Cl Q s a' w') (fun _ _ h1 h2 => ⟨h1, h2⟩) d
    split
    · rename_i hw; rw [if_pos hw] at this; exact this
    · rename_i hw; rw [if_neg hw] at this; exact this⟩
theorem wpMS_store {Q : Act → World → Prop} {a : Act} {w : World} {i : Nat} {o : Oper} {s : List (Nat × Nat)} (ho : l[i]? = some o)
    (h : ∀ (K : Act → World → Prop), (∀ a' w', wpMS P l ops Cl Q s a' w' → K a' w') → ∀ d, if Region.wanted o (yielded ops a.tmps) then sOp P o a K (bw w d) else K (a.put o.dst undef) (bw w d)) : wpMS P l ops Cl Q ((i, 3) :: s) a w :=
  ⟨o, ho, fun d => by
    have := h (fun a' w' => wpMS P l ops Cl Q s a' w') (fun _ _ h2 => h2) d
    split
    · rename_i hw; rw [if_pos hw] at this; exact this
    · rename_i hw; rw [if_neg hw] at this; exact this⟩
theorem wpMS_nil {Q : Act → World → Prop} {a : Act} {w : World} (h : ∀ d, Q a (bw w d)) : wpMS P l ops Cl Q [] a w := h
end
end Go.Proofs.YtlkphcjlgbimkaaGreat

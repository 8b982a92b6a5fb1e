/- Contracts and plain laws, several texts in one: Put; Put2 -/
import Derived.Test.YtmmfkleplbofgaaGreatDoorProg
import Derived.WalkKit
import Derived.WalkSpells
import Derived.WalkLawsBesides
import Derived.Lib.Hide
import Derived.BigQuiet
import Derived.Maps.AppendAt
import Derived.Laws.AppendOwnNone
import Derived.Test.YtmmfkleplbofgaaGreatDoorBAA
import Derived.Test.YtmmfkleplbofgaaGreatDoorBAB
import Derived.Test.YtmmfkleplbofgaaGreatDoorBAK
/- An append of a whole slice to a row of the call's own; slices cut; the reference's with and near. -/
namespace Go.Proofs.YtmmfkleplbofgaaGreatDoor
open Go.RowKit

theorem wf_append {l m : List Int} (hl : ∀ i, i < l.length → (Lit.int .i64 (nth l i)).wf = true) (hm : ∀ i, i < m.length → (Lit.int .i64 (nth m i)).wf = true) : ∀ i, i < (l ++ m).length → (Lit.int .i64 (nth (l ++ m) i)).wf = true := by
  intro i hi
  by_cases h : i < l.length
  · have : nth (l ++ m) i = nth l i := by unfold nth; simp [List.getD, List.getElem?_append, h]
    rw [this]; exact hl i h
  · have h2 : i - l.length < m.length := by simp at hi; omega
    have : nth (l ++ m) i = nth m (i - l.length) := by unfold nth; simp [List.getD, List.getElem?_append, h]
    rw [this]; exact hm _ h2
theorem map_get {l : List Int} {j : Nat} {u : Value} (h : (l.map (Value.int .i64))[j]? = some u) : j < l.length ∧ u = .int .i64 (nth l j) := by
  rw [List.getElem?_map] at h
  have hj : j < l.length := by
    rcases Nat.lt_or_ge j l.length with h1 | h1
    · exact h1
    · rw [List.getElem?_eq_none h1] at h; cases h
  rw [nth_getElem? hj] at h
  exact ⟨hj, by simpa using h.symm⟩
theorem push_sl {ops : Array Oper} {rest : List Oper} {o : Oper} {a : Act} {Q : Exit → Act → World → Prop} (hgd : o.guard = none) (s x : Operand)
    (ho : o.op = .call { callee := .builtin .append, args := #[s, x], argTypes := #[29, 29] })
    (W0 : World) (wb : World) (v1 : Value) (l1 : List Int) (A : Option Addr) (n c : Nat) (l2 : List Int) (hw : Below W0.heap.size W0 wb) (hown : Ow wb W0.heap.size v1 l1)
    (hsrc : Sl wb (.slice A n c) l2) (hA : A = none → c = 0) (hs : a.eval s = v1) (hx : a.eval x = .slice A n c) (hn : l1.length + l2.length ≤ 1000000000)
    (h : ∀ v' d, Ow (Go.Proofs.YtmmfkleplbofgaaGreatDoor.bw W0 d) W0.heap.size v' (l1 ++ l2) → wpList Tryz.prog ops Q rest (a.put o.dst v') (Go.Proofs.YtmmfkleplbofgaaGreatDoor.bw W0 d)) :
    wpList Tryz.prog ops Q (o :: rest) a wb := by
  obtain ⟨i, hi, hz0, hz1, hz2⟩ := info_parts info_intS
  have hM : maxLen = 9223372036854775807 := by decide
  obtain ⟨a', cap', he, hcc, hwf, hcell⟩ := hsrc
  simp only [Value.slice.injEq] at he
  obtain ⟨rfl, rfl, rfl⟩ := he
  cases A with
  | none =>
    obtain rfl := hA rfl
    have hl2 : l2 = [] := by
      rcases List.eq_nil_or_concat l2 with h | ⟨_, _, h⟩
      · exact h
      · have : l2 ≠ [] := by rw [h]; simp
        obtain ⟨_, _, h, _⟩ := hcell this
        cases h
    subst hl2
    obtain ⟨d, rfl⟩ := bw_of hw
    refine wpList_append_own_none hgd s x 29 ho W0.heap.size 3 i 1 Tryz.underlying29 hi v1 l1.length (l1.map (Value.int .i64)) hs hown.1 hx ?_
    exact h v1 d (by rw [List.append_nil]; exact hown)
  | some ad =>
    refine wpList_append_own wb hgd s x 29 ho W0.heap.size 3 i (.int .i64 0) 1 8 Tryz.underlying29 hi hz0 hz1 hz2 rfl (by decide) v1 l1.length (l1.map (Value.int .i64)) hs hown.1 ad l2.length c (l2.map (Value.int .i64)) hx (by simp) ?_ ?_ (by omega) (by omega) hw.size ?_
    · intro j u hu
      obtain ⟨hj, rfl⟩ := map_get hu
      obtain ⟨b, o', e, _, hr⟩ := hcell (by intro e; rw [e] at hj; exact absurd hj (Nat.not_lt_zero _))
      cases e
      rw [s_add_none1 rfl]
      exact hr j hj
    · intro u hu
      obtain ⟨y, _, rfl⟩ := List.mem_map.1 hu
      rfl
    · intro v' w' hown' hg _
      obtain ⟨d, hd⟩ := bw_of (w := W0) (w' := w') (hw.grown hg hw.size (fun k hk => (hown.1.lt k hk).1))
      subst hd
      exact h v' d ⟨by rw [List.length_append, List.map_append]; exact hown', wf_append hown.2 hwf⟩
/-- An empty literal. -/
theorem ow_empty {w : World} {L : List (Obj ⊕ Ext)} : Ow (lay w (.inl (.cells #[] 3 (0, 0)) :: L)) (lay w L).heap.size (.slice (some ⟨posn w (shp L), 0, none⟩) 0 0) [] := by
  rw [← lay_size w L]
  exact ⟨World.ownsRow_lit (lay w L) #[] 0 (Nat.le_refl _) (by decide) rfl, fun i hi => absurd hi (Nat.not_lt_zero i)⟩
/-- A slice cut out of one. -/
theorem nth_cut {l : List Int} {f n i : Nat} (h : i < n) : nth ((l.drop f).take n) i = nth l (f + i) := by
  unfold nth; simp [List.getD, h]
theorem sl_cut {w : World} {b o n cap f k c : Nat} {l : List Int} (h : Sl w (.slice (some ⟨b, o, none⟩) n cap) l) (hf : f + k ≤ l.length) (hc : k ≤ c ∧ c ≤ 9223372036854775807) : Sl w (.slice (some ⟨b, o + f, none⟩) k c) ((l.drop f).take k) := by
  have hl : ((l.drop f).take k).length = k := by rw [List.length_take, List.length_drop]; omega
  obtain ⟨a', cap', he, hcc, hwf, hcell⟩ := h
  simp only [Value.slice.injEq] at he
  obtain ⟨he, rfl, rfl⟩ := he
  refine ⟨_, c, by rw [hl], by rw [hl]; exact hc, fun i hi => ?_, fun hne => ⟨b, o + f, rfl, ?_⟩⟩
  · rw [hl] at hi
    rw [nth_cut hi]; exact hwf _ (by omega)
  · have hk : 0 < k := by rw [← hl]; exact List.length_pos_iff.2 hne
    obtain ⟨b', o', e, hb, hr⟩ := hcell (by intro e; rw [e] at hf; simp at hf; omega)
    rw [← he] at e
    cases e
    refine ⟨hb, fun i hi => ?_⟩
    rw [hl] at hi
    rw [nth_cut hi, Nat.add_assoc]
    exact hr _ (by omega)
theorem sl_none {w : World} {a : Option Addr} {c : Nat} (hc : c ≤ 9223372036854775807) : Sl w (.slice a 0 c) [] := ⟨a, c, rfl, ⟨Nat.zero_le _, hc⟩, fun i hi => absurd hi (Nat.not_lt_zero i), fun h => absurd rfl h⟩
set_option maxHeartbeats 1000000 in
set_option maxRecDepth 100000 in
theorem re_with (v : Value) (l : List Int) (at_ : Nat) (x : Int) (w : World) (hs : Sl w v l) (ha : at_ < l.length) (hn : l.length ≤ 1000) (hx : (Lit.int .i64 x).wf = true) :
    Calls Tryz.prog 88 #[v, .int .i64 (at_ : Int), .int .i64 x] w (Rw w (l.set at_ x)) := by
  have HS := Lib.hid hs
  obtain ⟨b, o, cap, rfl, -⟩ := hs.open (by omega)
  obtain ⟨m, hm⟩ : ∃ m, l.length = m := ⟨_, rfl⟩
  rw [hm] at HS ha hn ⊢
  have HM := Lib.hid hm
  have y0 : (0 : Int) ≤ (at_ : Int) := by omega
  have y1 : (at_ : Int) < (m : Int) := by omega
  clear hm hs
  refine lay_start ?_
  go_enter Tryz.func88, Tryz.ntmps88
  go_wp2_with (at_builtin; refine push_sl rfl _ _ rfl (lay w []) _ _ _ _ _ _ l ?_ (ow_empty (L := [])) (HS.out.lay _) (fun h => by cases h) rfl rfl (by rw [HM.out]; show 0 + m ≤ _; omega) ?_; exact lay_below (A := [_]); intro v' d' hv'; obtain ⟨g, c, hve, h1, h2, h3, h4⟩ := hv'.form1 (show 0 < l.length by rw [HM.out]; omega); rw [show (([] : List Int) ++ l).length = m from HM.out] at hve h3; subst hve; replace hv' : Ow (lay w [.inr d']) (lay w []).heap.size (.slice (some ⟨g, 0, none⟩) m c) l := hv'; obtain ⟨d2, hd2⟩ := bw_store (d := d') (i := at_) (v := .int .i64 x) h1; replace hd2 : (lay w [.inr d']).setCell ⟨g, at_, none⟩ (.int .i64 x) = lay w [.inr d2] := hd2; have hv2 := ow_store hv' at_ x hx; rw [hd2] at hv2; have HV := Lib.hid hv2; have k0 := hv'.cell (i := at_) (by rw [HM.out]; exact ha); have k1 := hv'.froz at_; clear hv' hv2)
  go_ret
  obtain ⟨z, hz⟩ := lay_ex w [.inr d2]
  exact ⟨_, z, rfl, hz, by rw [← hz]; exact HV.out⟩
def nearLo (at_ : Nat) : Nat := at_ - 2
def nearHi (at_ n : Nat) : Nat := min (at_ + 3) n
/-- The entries from two before an index to two after it. -/
def nearL (l : List Int) (at_ : Nat) : List Int := (l.drop (nearLo at_)).take (nearHi at_ l.length - nearLo at_)
def NearPost (w : World) (l : List Int) (at_ : Nat) (e : Ending) (w' : World) : Prop := ∃ v d, e = .returned (.tuple #[v, .int .i64 ((at_ - nearLo at_ : Nat) : Int)]) ∧ w' = bw w d ∧ Ow (bw w d) w.heap.size v (nearL l at_)
set_option maxHeartbeats 1000000 in
set_option maxRecDepth 100000 in
theorem re_near (v : Value) (l : List Int) (at_ : Nat) (w : World) (hs : Sl w v l) (ha : at_ < l.length) (hn : l.length ≤ 1000) :
    Calls Tryz.prog 85 #[v, .int .i64 (at_ : Int)] w (NearPost w l at_) := by
  have HS := Lib.hid hs
  obtain ⟨b, o, cap, rfl, hc, -⟩ := hs.open (by omega)
  obtain ⟨m, hm⟩ : ∃ m, l.length = m := ⟨_, rfl⟩
  obtain ⟨lo, hlo⟩ : ∃ lo, nearLo at_ = lo := ⟨_, rfl⟩
  obtain ⟨hi, hhi⟩ : ∃ hi, nearHi at_ l.length = hi := ⟨_, rfl⟩
  have hnl : nearL l at_ = (l.drop lo).take (hi - lo) := by unfold nearL; rw [hlo, hhi]
  unfold NearPost
  rw [hnl, hlo]
  rw [hm] at HS ha hn hc hhi ⊢
  unfold nearLo at hlo
  unfold nearHi at hhi
  have HM := Lib.hid hm
  have hlm : lo ≤ hi ∧ hi ≤ m := by omega
  have w2 : IntKind.i64.wrap ((at_ : Int) + 3) = (at_ : Int) + 3 := IntWalk.i64_in _ (by omega)
  have x1 : (0 : Int) ≤ (lo : Int) := by omega
  have x2 : (lo : Int) ≤ (hi : Int) := by omega
  have x3 : (hi : Int) ≤ (cap : Int) := by omega
  have hlen : ([] : List Int).length + ((l.drop lo).take (hi - lo)).length ≤ 1000000000 := by rw [List.length_take]; simp only [List.length_nil]; omega
  clear hm hs hnl
  by_cases h1 : at_ < 2
  · obtain rfl : lo = 0 := by omega
    have HC : Hid (Sl w (.slice (some ⟨b, o, none⟩) hi cap) ((l.drop 0).take (hi - 0))) := Lib.hid (by
      have := sl_cut (f := 0) (k := hi) (c := cap) HS.out (by rw [HM.out]; omega) (by omega)
      rw [Nat.add_zero] at this; exact this)
    have t1 : decide ((at_ : Int) - 2 < 0) = true := decide_eq_true (by omega)
    have w1 : IntKind.i64.wrap ((at_ : Int) - 2) = (at_ : Int) - 2 := IntWalk.i64_in _ (by omega)
    by_cases h2 : m < at_ + 3
    · obtain rfl : hi = m := by omega
      have t2 : decide ((hi : Int) < (at_ : Int) + 3) = true := decide_eq_true (by omega)
      have wz : IntKind.i64.wrap (at_ : Int) = (at_ : Int) := IntWalk.i64_in _ (by omega)
      refine lay_start ?_
      go_enter Tryz.func85, Tryz.ntmps85
      go_wp2_with (at_builtin; refine push_sl rfl _ _ rfl (lay w []) _ _ _ _ _ _ ((l.drop 0).take (hi - 0)) ?_ (ow_empty (L := [])) (HC.out.lay _) (fun h => by cases h) rfl rfl hlen ?_; exact lay_below (A := [_]); intro v' d' hv'; replace hv' := Lib.hid hv')
      exact bodyPost_ret (v := .tuple #[v', .int .i64 ((at_ : Nat) : Int)]) (by simp [results, Tryz.results85, go_sem]) rfl ⟨v', d', rfl, rfl, hv'.out⟩
    · obtain rfl : hi = at_ + 3 := by omega
      have t2 : decide ((m : Int) < (at_ : Int) + 3) = false := decide_eq_false (by omega)
      have z1 : (0 : Int) ≤ (at_ : Int) + 3 := by omega
      have z2 : (at_ : Int) + 3 ≤ (cap : Int) := by omega
      have z3 : ((at_ : Int) + 3).toNat = at_ + 3 := by omega
      have wz : IntKind.i64.wrap (at_ : Int) = (at_ : Int) := IntWalk.i64_in _ (by omega)
      clear x2 x3
      refine lay_start ?_
      go_enter Tryz.func85, Tryz.ntmps85
      go_wp2_with (at_builtin; refine push_sl rfl _ _ rfl (lay w []) _ _ _ _ _ _ ((l.drop 0).take (at_ + 3 - 0)) ?_ (ow_empty (L := [])) (HC.out.lay _) (fun h => by cases h) rfl rfl hlen ?_; exact lay_below (A := [_]); intro v' d' hv'; replace hv' := Lib.hid hv')
      exact bodyPost_ret (v := .tuple #[v', .int .i64 ((at_ : Nat) : Int)]) (by simp [results, Tryz.results85, go_sem]) rfl ⟨v', d', rfl, rfl, hv'.out⟩
  · obtain ⟨k, rfl⟩ : ∃ k, at_ = k + 2 := ⟨at_ - 2, by omega⟩
    obtain rfl : lo = k := by omega
    have ek : ((lo + 2 : Nat) : Int) = (lo : Int) + 2 := by omega
    rw [ek] at w2 ⊢
    have wq : IntKind.i64.wrap ((lo : Int) + 2 - (lo : Int)) = 2 := by rw [IntWalk.i64_in _ (by omega)]; omega
    have hq : ((lo + 2 - lo : Nat) : Int) = 2 := by omega
    rw [hq]
    have t1 : decide ((lo : Int) < 0) = false := decide_eq_false (by omega)
    have HC := fun (c : Nat) (hc2 : hi - lo ≤ c ∧ c ≤ 9223372036854775807) => sl_cut (f := lo) (k := hi - lo) (c := c) HS.out (by rw [HM.out]; omega) hc2
    by_cases h2 : m < lo + 2 + 3
    · obtain rfl : hi = m := by omega
      have t2 : decide ((hi : Int) < (lo : Int) + 2 + 3) = true := decide_eq_true (by omega)
      have wz : IntKind.i64.wrap (lo : Int) = (lo : Int) := IntWalk.i64_in _ (by omega)
      have HC := Lib.hid (HC (cap - lo) (by omega))
      refine lay_start ?_
      go_enter Tryz.func85, Tryz.ntmps85
      go_wp2_with (at_builtin; refine push_sl rfl _ _ rfl (lay w []) _ _ _ _ _ _ ((l.drop lo).take (hi - lo)) ?_ (ow_empty (L := [])) (HC.out.lay _) (fun h => by cases h) rfl rfl hlen ?_; exact lay_below (A := [_]); intro v' d' hv'; replace hv' := Lib.hid hv')
      exact bodyPost_ret (v := .tuple #[v', .int .i64 2]) (by simp [results, Tryz.results85, go_sem]) rfl ⟨v', d', rfl, rfl, hv'.out⟩
    · obtain rfl : hi = lo + 2 + 3 := by omega
      have t2 : decide ((m : Int) < (lo : Int) + 2 + 3) = false := decide_eq_false (by omega)
      have z1 : (0 : Int) ≤ (lo : Int) + 2 + 3 := by omega
      have z2 : (lo : Int) + 2 + 3 ≤ (cap : Int) := by omega
      have z3 : ((lo : Int) + 2 + 3).toNat = lo + 2 + 3 := by omega
      have z4 : (lo : Int) ≤ (lo : Int) + 2 + 3 := by omega
      have wz : IntKind.i64.wrap (lo : Int) = (lo : Int) := IntWalk.i64_in _ (by omega)
      have HC := Lib.hid (HC (cap - lo) (by omega))
      clear x2 x3
      refine lay_start ?_
      go_enter Tryz.func85, Tryz.ntmps85
      go_wp2_with (at_builtin; refine push_sl rfl _ _ rfl (lay w []) _ _ _ _ _ _ ((l.drop lo).take (lo + 2 + 3 - lo)) ?_ (ow_empty (L := [])) (HC.out.lay _) (fun h => by cases h) rfl rfl hlen ?_; exact lay_below (A := [_]); intro v' d' hv'; replace hv' := Lib.hid hv')
      exact bodyPost_ret (v := .tuple #[v', .int .i64 2]) (by simp [results, Tryz.results85, go_sem]) rfl ⟨v', d', rfl, rfl, hv'.out⟩
end Go.Proofs.YtmmfkleplbofgaaGreatDoor
/- The reference's put. -/
namespace Go.Proofs.YtmmfkleplbofgaaGreatDoor
open Go.RowKit

/-- The call returns a slice that reads as this list. -/
def SlR (w : World) (l : List Int) (e : Ending) (w' : World) : Prop := ∃ v d, e = .returned v ∧ w' = bw w d ∧ Sl (bw w d) v l
theorem putI_at {x : Int} : ∀ {l : List Int} {k : Nat}, k ≤ l.length → (∀ i, i < k → nth l i < x) → (k < l.length → ¬ nth l k < x) →
    putI x l = if k < l.length ∧ nth l k = x then l else l.take k ++ [x] ++ l.drop k
  | [], k, hk, _, _ => by
    obtain rfl : k = 0 := by simpa using hk
    simp [putI]
  | y :: l, 0, _, _, h => by
    have h0 : nth (y :: l) 0 = y := rfl
    have h1 := h (by simp)
    rw [h0] at h1 ⊢
    unfold putI
    rw [if_neg h1]
    by_cases e : y = x
    · rw [if_pos e, if_pos ⟨by simp, e⟩]
    · rw [if_neg e, if_neg (fun h => e h.2)]; rfl
  | y :: l, k + 1, hk, h1, h2 => by
    have h0 : y < x := h1 0 (by omega)
    have hs : ∀ i, nth (y :: l) (i + 1) = nth l i := fun i => rfl
    have ih := putI_at (x := x) (l := l) (k := k) (by simpa using hk) (fun i hi => by rw [← hs]; exact h1 (i + 1) (by omega)) (fun h => by rw [← hs]; exact h2 (by simp; omega))
    unfold putI
    rw [if_pos h0, ih, hs]
    by_cases e : k < l.length ∧ nth l k = x
    · rw [if_pos e, if_pos ⟨by simp; omega, e.2⟩]
    · rw [if_neg e, if_neg (fun h => e ⟨by have := h.1; simp at this; omega, h.2⟩)]; rfl
set_option maxHeartbeats 1000000 in
set_option maxRecDepth 100000 in
theorem re_put_nil (x : Int) (w : World) (hx : (Lit.int .i64 x).wf = true) :
    Calls Tryz.prog 89 #[.slice none 0 0, .int .i64 x] w (SlR w [x]) := by
  have HN := Lib.hid (fun W => Sl.nil W)
  refine lay_start ?_
  go_enter Tryz.func89, Tryz.ntmps89
  go_wp2_with fail
  refine wp_loop_rounds 1 ?_
  rw [rounds_succ]
  go_wp2_with (first | (at_builtin; refine push_sl rfl _ _ rfl (lay w []) _ _ _ _ _ _ [] ?_ (ow_empty (L := [])) (HN.out _) (fun _ => rfl) rfl rfl (by simp) ?_; exact lay_below (A := [_]); intro v1 d1 hv1; replace hv1 := Lib.hid hv1) | (at_builtin; refine push_int rfl _ _ rfl (lay w []) _ x 3 _ _ _ ?_ (ow_on (A := [_]) (B := [.inr d1]) hv1.out) ?_ rfl rfl (by simp) hx ?_; exact lay_below (A := [_, _]); exact lay_get w _ 0 _ rfl; intro v2 d2 hv2; replace hv2 := Lib.hid hv2) | (at_builtin; refine push_sl rfl _ _ rfl (lay w []) _ _ _ _ _ _ [] ?_ (show Ow (lay w [.inr d2]) _ _ _ from hv2.out) (HN.out _) (fun _ => rfl) rfl rfl (by simp) ?_; exact lay_below (A := [_]); intro v3 d3 hv3; replace hv3 := Lib.hid hv3))
  go_ret
  exact ⟨_, d3, rfl, rfl, hv3.out.sl⟩
theorem take_wf {l : List Int} (h : ∀ i, i < l.length → (Lit.int .i64 (nth l i)).wf = true) (k : Nat) : ∀ i, i < (l.take k).length → (Lit.int .i64 (nth (l.take k) i)).wf = true :=
  wf_of_mem h fun _ hx => List.mem_of_mem_take hx
set_option maxHeartbeats 1000000 in
set_option maxRecDepth 100000 in
theorem re_put (v : Value) (l : List Int) (x : Int) (w : World) (hs : Sl w v l) (hl : 0 < l.length) (hn : l.length ≤ 100000000) (hx : (Lit.int .i64 x).wf = true) :
    Calls Tryz.prog 89 #[v, .int .i64 x] w (SlR w (putI x l)) := by
  have HS := Lib.hid hs
  obtain ⟨b, o, cap, rfl, hc, hwf, hb, hr⟩ := hs.open hl
  obtain ⟨m, hm⟩ : ∃ m, l.length = m := ⟨_, rfl⟩
  have HP := Lib.hid (fun k => @putI_at x l k)
  have hl1 : ∀ k, ([] : List Int).length + ((l.drop 0).take k).length ≤ 1000000000 := fun k => by rw [List.length_take]; simp only [List.length_nil, List.drop_zero]; omega
  have HL1 := Lib.hid hl1
  rw [hm] at HP HS hr hc hl hn ⊢
  have HR := Lib.hid hr
  have HM := Lib.hid hm
  clear hs hr hm hwf hl1
  refine lay_start ?_
  go_enter Tryz.func89, Tryz.ntmps89
  go_wp2_with fail
  go_loop [5] (fun v5 => ∃ k : Nat, k ≤ m ∧ v5 = .int .i64 (k : Int) ∧ ∀ i, i < k → nth l i < x) (fun v5 => m - (intOf v5).toNat)
  case atStart => exact ⟨0, Nat.zero_le _, rfl, fun i hi => absurd hi (Nat.not_lt_zero i)⟩
  case round =>
    obtain ⟨k, hk, rfl, hlt⟩ := hrel
    have HLt := Lib.hid hlt
    clear hlt
    have x0 : (0 : Int) ≤ (k : Int) := by omega
    by_cases hkm : k < m
    · have k0 := HR.out k hkm
      have x1 : (k : Int) < (m : Int) := by omega
      by_cases h1 : nth l k < x
      · have t1 : decide (nth l k < x) = true := decide_eq_true h1
        have HN2 : Hid (∀ i, i < k + 1 → nth l i < x) := Lib.hid (fun i hi => by
          by_cases e : i = k
          · subst e; exact h1
          · exact HLt.out i (by omega))
        generalize nth l k = y at *
        go_wp2_with fail
        go_round
        case rel => exact ⟨k + 1, hkm, by go_num, HN2.out⟩
        case measure => simp [intOf]; omega
      · have t1 : decide (nth l k < x) = false := decide_eq_false h1
        have hP := HP.out k (by omega) HLt.out (fun _ => by omega)
        by_cases h2 : nth l k = x
        · have t2 : (nth l k == x) = true := beq_iff_eq.2 h2
          rw [if_pos ⟨hkm, h2⟩] at hP
          have HPu := Lib.hid hP
          clear hP h2
          generalize nth l k = y at *
          go_wp2_with fail
          go_ret
          exact ⟨_, noExt w, rfl, (bw_noExt w).symm, by rw [bw_noExt, HPu.out]; exact HS.out⟩
        · have t2 : (nth l k == x) = false := beq_eq_false_iff_ne.2 h2
          rw [if_neg (fun h => h2 h.2)] at hP
          have HC1 : Hid (Sl w (.slice (some ⟨b, o, none⟩) k cap) ((l.drop 0).take k)) := Lib.hid (by
            have := sl_cut (f := 0) (k := k) (c := cap) HS.out (by rw [HM.out]; omega) (by omega)
            rw [Nat.add_zero] at this; exact this)
          have HC2 : Hid (Sl w (.slice (some ⟨b, o + k, none⟩) (m - k) (cap - k)) ((l.drop k).take (m - k))) := Lib.hid (sl_cut (f := k) (k := m - k) (c := cap - k) HS.out (by rw [HM.out]; omega) (by omega))
          have hE : ([] ++ (l.drop 0).take k) ++ [x] ++ (l.drop k).take (m - k) = putI x l := by
            rw [hP, List.drop_zero, List.nil_append, List.take_of_length_le (l := l.drop k) (by rw [List.length_drop, HM.out]; exact Nat.le_refl _)]
          have HL2 : Hid (([] ++ (l.drop 0).take k : List Int).length ≤ 1000000000) := Lib.hid (by rw [List.nil_append, List.length_take]; omega)
          have HL3 : Hid (([] ++ (l.drop 0).take k ++ [x] : List Int).length + ((l.drop k).take (m - k)).length ≤ 1000000000) := Lib.hid (by
            rw [List.nil_append, List.length_append, List.length_take, List.length_take]; simp only [List.length_singleton]; omega)
          have HE := Lib.hid hE
          have x2 : (k : Int) ≤ (cap : Int) := by omega
          have x3 : (k : Int) ≤ (m : Int) := by omega
          have x4 : (m : Int) ≤ (cap : Int) := by omega
          have x5 : k < cap := by omega
          clear hP hE h2
          generalize nth l k = y at *
          go_wp2_with (first | (at_builtin; refine push_sl rfl _ _ rfl (lay w []) _ _ _ _ _ _ ((l.drop 0).take k) ?_ (ow_empty (L := [])) (HC1.out.lay _) (fun h => by cases h) rfl rfl (HL1.out k) ?_; exact lay_below (A := [_]); intro v1 d1 hv1; replace hv1 := Lib.hid hv1) | (at_builtin; refine push_int rfl _ _ rfl (lay w []) _ x 3 _ _ _ ?_ (ow_on (A := [_]) (B := [.inr d1]) hv1.out) ?_ rfl rfl HL2.out hx ?_; exact lay_below (A := [_, _]); exact lay_get w _ 0 _ rfl; intro v2 d2 hv2; replace hv2 := Lib.hid hv2) | (at_builtin; refine push_sl rfl _ _ rfl (lay w []) _ _ _ _ _ _ ((l.drop k).take (m - k)) ?_ (show Ow (lay w [.inr d2]) _ _ _ from hv2.out) (HC2.out.lay _) (fun h => by cases h) rfl rfl HL3.out ?_; exact lay_below (A := [_]); intro v3 d3 hv3; replace hv3 := Lib.hid hv3))
          go_ret
          exact ⟨_, d3, rfl, rfl, by have := hv3.out.sl; rw [HE.out] at this; exact this⟩
    · obtain rfl : k = m := by omega
      have hP := HP.out k (by omega) HLt.out (fun h => absurd h (Nat.lt_irrefl _))
      rw [if_neg (fun h => absurd h.1 (Nat.lt_irrefl _))] at hP
      have HC1 : Hid (Sl w (.slice (some ⟨b, o, none⟩) k cap) ((l.drop 0).take k)) := Lib.hid (by
        have := sl_cut (f := 0) (k := k) (c := cap) HS.out (by rw [HM.out]; omega) (by omega)
        rw [Nat.add_zero] at this; exact this)
      have HL2 : Hid (([] ++ (l.drop 0).take k : List Int).length ≤ 1000000000) := Lib.hid (by rw [List.nil_append, List.length_take]; omega)
      have HL3 : Hid (([] ++ (l.drop 0).take k ++ [x] : List Int).length + ([] : List Int).length ≤ 1000000000) := Lib.hid (by
        rw [List.nil_append, List.length_append, List.length_take]; simp only [List.length_singleton, List.length_nil]; omega)
      have hE : ([] ++ (l.drop 0).take k) ++ [x] ++ ([] : List Int) = putI x l := by
        rw [hP, List.drop_zero, List.nil_append, List.drop_of_length_le (by rw [HM.out]; exact Nat.le_refl _)]
      have HE := Lib.hid hE
      have x2 : (k : Int) ≤ (cap : Int) := by omega
      have HC3 := Lib.hid (fun W a (c : Nat) (hc : c ≤ cap) => sl_none (w := W) (a := a) (c := c) (by omega))
      clear hP hE
      by_cases hcap : cap = k
      · subst hcap
        go_wp2_with (first | (at_builtin; refine push_sl rfl _ _ rfl (lay w []) _ _ _ _ _ _ ((l.drop 0).take cap) ?_ (ow_empty (L := [])) (HC1.out.lay _) (fun h => by cases h) rfl rfl (HL1.out cap) ?_; exact lay_below (A := [_]); intro v1 d1 hv1; replace hv1 := Lib.hid hv1) | (at_builtin; refine push_int rfl _ _ rfl (lay w []) _ x 3 _ _ _ ?_ (ow_on (A := [_]) (B := [.inr d1]) hv1.out) ?_ rfl rfl HL2.out hx ?_; exact lay_below (A := [_, _]); exact lay_get w _ 0 _ rfl; intro v2 d2 hv2; replace hv2 := Lib.hid hv2) | (at_builtin; refine push_sl rfl _ _ rfl (lay w []) _ _ _ _ _ _ ([]) ?_ (show Ow (lay w [.inr d2]) _ _ _ from hv2.out) (HC3.out _ _ _ (by omega)) (fun h => by cases h) rfl rfl HL3.out ?_; exact lay_below (A := [_]); intro v3 d3 hv3; replace hv3 := Lib.hid hv3))
        go_ret
        exact ⟨_, d3, rfl, rfl, by have := hv3.out.sl; rw [HE.out] at this; exact this⟩
      · have x5 : k < cap := by omega
        go_wp2_with (first | (at_builtin; refine push_sl rfl _ _ rfl (lay w []) _ _ _ _ _ _ ((l.drop 0).take k) ?_ (ow_empty (L := [])) (HC1.out.lay _) (fun h => by cases h) rfl rfl (HL1.out k) ?_; exact lay_below (A := [_]); intro v1 d1 hv1; replace hv1 := Lib.hid hv1) | (at_builtin; refine push_int rfl _ _ rfl (lay w []) _ x 3 _ _ _ ?_ (ow_on (A := [_]) (B := [.inr d1]) hv1.out) ?_ rfl rfl HL2.out hx ?_; exact lay_below (A := [_, _]); exact lay_get w _ 0 _ rfl; intro v2 d2 hv2; replace hv2 := Lib.hid hv2) | (at_builtin; refine push_sl rfl _ _ rfl (lay w []) _ _ _ _ _ _ ([]) ?_ (show Ow (lay w [.inr d2]) _ _ _ from hv2.out) (HC3.out _ _ _ (by omega)) (fun h => by cases h) rfl rfl HL3.out ?_; exact lay_below (A := [_]); intro v3 d3 hv3; replace hv3 := Lib.hid hv3))
        go_ret
        exact ⟨_, d3, rfl, rfl, by have := hv3.out.sl; rw [HE.out] at this; exact this⟩
end Go.Proofs.YtmmfkleplbofgaaGreatDoor

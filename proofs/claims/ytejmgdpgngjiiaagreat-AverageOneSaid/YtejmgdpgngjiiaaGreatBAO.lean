/- Contracts and plain laws, several texts in one: LsK; PuO; La2; La3 -/
import Derived.Test.YtejmgdpgngjiiaaGreatProg
import Derived.WalkKit
import Derived.WalkSpells
import Derived.WalkLawsBesides
import Derived.Lib.Hide
import Derived.BigQuiet
import Derived.Deep.Slices
import Derived.Deep.Fields
import Derived.ChangeSame
import Derived.WideShapes
import Derived.ChangeShapes
import Derived.Lib.SmallJoins
import Derived.Deep.AppendLies
import Derived.Test.YtejmgdpgngjiiaaGreatBAA
import Derived.Test.YtejmgdpgngjiiaaGreatBAB
import Derived.Test.YtejmgdpgngjiiaaGreatBAN
/- Lists of ints of any kind as arguments (as XTrk's of int). -/
namespace Go.Proofs.YtejmgdpgngjiiaaGreat
open Go.RowKit

/-- The value is a slice that reads, in this world, as these ints. -/
def LstK (k : IntKind) (w : World) (v : Value) (l : List Int) : Prop :=
  ∃ a cap, v = .slice a l.length cap ∧ (l.length ≤ cap ∧ cap ≤ 9223372036854775807) ∧ (∀ i, i < l.length → (Lit.int k (nth l i)).wf = true) ∧
    (l ≠ [] → ∃ b o, a = some ⟨b, o, none⟩ ∧ b < w.heap.size ∧ ∀ i, i < l.length → w.cell? ⟨b, o + i, none⟩ = some (.int k (nth l i)))
theorem LstK.bw {k : IntKind} {w : World} {v : Value} {l : List Int} (h : LstK k w v l) (d : Ext) : LstK k (bw w d) v l := by
  obtain ⟨a, cap, h1, h2, h0, h3⟩ := h
  refine ⟨a, cap, h1, h2, h0, fun hl => ?_⟩
  obtain ⟨b, o, h4, h5, h6⟩ := h3 hl
  exact ⟨b, o, h4, Nat.lt_of_lt_of_le h5 (bw_le w d), fun i hi => (bw_cell w d b (o + i) h5).trans (h6 i hi)⟩
theorem LstK.lay {k : IntKind} {w : World} {v : Value} {l : List Int} (h : LstK k w v l) (L : List (Obj ⊕ Ext)) : LstK k (lay w L) v l := by
  obtain ⟨d, hd⟩ := lay_ex w L
  rw [hd]; exact h.bw d
theorem lstK_of_fn {k : IntKind} {w : World} {a : Addr} {n cap : Nat} (hn : n ≤ cap ∧ cap ≤ 9223372036854775807) (hsp : a.spot = none) (hb : n ≠ 0 → a.block < w.heap.size) (f : Nat → Int)
    (h : ∀ i, i < n → w.cell? ⟨a.block, a.off + i, none⟩ = some (.int k (f i)) ∧ (Lit.int k (f i)).wf = true) :
    LstK k w (.slice (some a) n cap) ((List.range n).map f) := by
  have e : ∀ i, i < n → nth ((List.range n).map f) i = f i := fun i hi => by simp [nth, List.getD, hi]
  refine ⟨some a, cap, by simp, by simpa using hn, fun i hi => ?_, fun hl => ⟨a.block, a.off, by cases a; simp_all, hb (by rintro rfl; exact hl rfl), fun i hi => ?_⟩⟩
  · have hi' : i < n := by simpa using hi
    rw [e i hi']; exact (h i hi').2
  · have hi' : i < n := by simpa using hi
    rw [e i hi']; exact (h i hi').1
section
variable {H : Type} {enc : TypeId × Value → H} {P : Program}
theorem lstK_of {k : IntKind} {w : World} {t e : TypeId} {fuel : Nat} {v : Value} {x : DataW H × List MemPlace} (ht : P.underlying t = some (.slice e)) (he : P.underlying e = some (.int k)) (hC : P.cellsOf e = 1)
    (hf : DataW.trod enc P w 0 (fun _ => true) true fuel t [v] = some x) : ∃ l, LstK k w v l := by
  rcases Go.Deep.open_slice ht hf with ⟨hcs, _⟩ | ⟨a', len', cap', m, n, D, Pl, hcs, hb, hl, hm, hmm, hx, hel⟩
  · obtain rfl : v = .slice none 0 0 := by simpa using hcs
    exact ⟨[], none, 0, rfl, by simp, fun i hi => absurd hi (Nat.not_lt_zero i), fun h => absurd rfl h⟩
  · obtain rfl : v = .slice (some a') len' cap' := by simpa using hcs
    simp only [if_true] at hmm
    subst hmm
    obtain ⟨f, hF⟩ := Go.Deep.choose_lt (α := Int) (p := fun i y => w.cell? (a'.add i) = some (.int k y) ∧ (Lit.int k y).wf = true) (n := m) (fun i him => by
      obtain ⟨cs', hc', ht'⟩ := hel i him
      rw [hC] at hc'
      obtain ⟨_, hcl, hat⟩ := World.cells?_some hc'
      obtain ⟨y, rfl, _, hw⟩ := DataW.trod_int he ht'
      exact ⟨y, by simpa [Go.Deep.add_add] using hat 0 (by simp), hw⟩)
    have hspot : 0 < len' → a'.spot = none := fun hp => by
      have := (hF 0 (by omega)).1
      unfold World.cell? at this
      cases hs : a'.spot
      · rfl
      · simp [Addr.add, hs] at this
        try (split at this <;> simp at this)
    have hbl : 0 < len' → a'.block < w.heap.size := fun hp => by
      obtain ⟨cs', hc', _⟩ := hel 0 (by omega)
      rw [hC] at hc'
      have := World.cells?_block hc' (by omega)
      simpa [s_add_block1] using this
    by_cases hz : len' = 0
    · subst hz
      have hM : maxLen = 9223372036854775807 := by decide
      exact ⟨[], some a', _, rfl, ⟨hl, by omega⟩, fun i hi => absurd hi (Nat.not_lt_zero i), fun hne => absurd rfl hne⟩
    · have hM : maxLen = 9223372036854775807 := by decide
      refine ⟨_, lstK_of_fn ⟨hl, by omega⟩ (hspot (by omega)) (fun _ => hbl (by omega)) f fun i hi' => ?_⟩
      have g := hF i (by omega)
      rw [s_add_none1 (hspot (by omega))] at g
      exact g
theorem lstK_open {k : IntKind} {w : World} {r : Reach} {b0 : Nat} {t e : TypeId} {v : Value} {d : DataW H} {ps : List MemPlace} (ht : P.underlying t = some (.slice e)) (he : P.underlying e = some (.int k)) (hC : P.cellsOf e = 1)
    (hv : Value.okWide P w r b0 t v) (h : DataW.Trod enc P w 0 (fun _ => true) true t v d ps) : ∃ l, LstK k w v l := by
  obtain ⟨a, len, cap, rfl⟩ := Go.WideShapes.okWide_slice ht hv
  obtain ⟨fuel, hf⟩ := h
  exact lstK_of ht he hC (by simpa [Value.cells] using hf)
end
end Go.Proofs.YtejmgdpgngjiiaaGreat
/- An append of an int to a row of the call's own, beside other rows of the call's own. -/
namespace Go.Proofs.YtejmgdpgngjiiaaGreat
open Go.RowKit

/-- Rows in different blocks. -/
def Aprt (u v : Value) : Prop := ∀ k, u.ownBlock = some k → v.ownBlock ≠ some k
theorem Aprt.symm {u v : Value} (h : Aprt u v) : Aprt v u := fun k h1 h2 => h k h2 h1
theorem Aprt.nil (v : Value) : Aprt (.slice none 0 0) v := fun k h => by simp [Value.ownBlock] at h
theorem ow_kept2 {wb w' : World} {base : Nat} {u v : Value} {l : List Int} (h : Ow wb base u l) (hk : ∀ k, k < wb.heap.size → v.ownBlock ≠ some k → w'.heap[k]? = wb.heap[k]?) (ha : Aprt u v) : Ow w' base u l := by
  refine ⟨⟨h.1.1, h.1.2.imp id ?_⟩, h.2⟩
  rintro ⟨g, cap, cur, rfl, h1, h2, h3⟩
  exact ⟨g, cap, cur, rfl, h1, (hk g (Array.getElem?_eq_some_iff.1 h2).1 (ha g rfl)).trans h2, h3⟩
theorem push_intO {ops : Array Oper} {rest : List Oper} {o : Oper} {a : Act} {Q : Exit → Act → World → Prop} (hgd : o.guard = none) (s x : Operand)
    (ho : o.op = .call { callee := .builtin .append, args := #[s, x], argTypes := #[22, 22] })
    (W0 : World) (wb : World) (c : Int) (te : TypeId) (xb : Nat) (v : Value) (l : List Int) (us : List (Value × List Int)) (hw : Below W0.heap.size W0 wb) (hown : Ow wb W0.heap.size v l)
    (hother : ∀ u ∈ us, Ow wb W0.heap.size u.1 u.2 ∧ Aprt v u.1)
    (hcell : wb.heap[xb]? = some (.cells #[.int .i64 c] te (0, 0))) (hs : a.eval s = v) (hx : a.eval x = .slice (some ⟨xb, 0, none⟩) 1 1)
    (hn : l.length ≤ 1000000000) (hc : (Lit.int .i64 c).wf = true)
    (h : ∀ v' d, Ow (Go.Proofs.YtejmgdpgngjiiaaGreat.bw W0 d) W0.heap.size v' (l ++ [c]) → (∀ u ∈ us, Ow (Go.Proofs.YtejmgdpgngjiiaaGreat.bw W0 d) W0.heap.size u.1 u.2 ∧ Aprt v' u.1) → wpList Tryz.prog ops Q rest (a.put o.dst v') (Go.Proofs.YtejmgdpgngjiiaaGreat.bw W0 d)) :
    wpList Tryz.prog ops Q (o :: rest) a wb := by
  obtain ⟨i, hi, hz0, hz1, hz2⟩ := info_parts info_intS
  have hM : maxLen = 9223372036854775807 := by decide
  refine wpList_append_lies wb hgd s x 22 ho W0.heap.size 3 i (.int .i64 0) 1 8 Tryz.underlying22 hi hz0 hz1 hz2 rfl (by decide) v l.length (l.map (Value.int .i64)) hs hown.1 ⟨xb, 0, none⟩ 1 1 [.int .i64 c] hx rfl (World.news_of_block (cs := #[.int .i64 c]) hcell) (by simp [Value.oneCell']) (by decide) (by omega) (by omega) hw.size wb.heap.size rfl ?_
  intro g cap w' hown' hg hat _
  obtain ⟨d, hd⟩ := bw_of (w := W0) (w' := w') (hw.grown hg hw.size (fun k hk => (hown.1.lt k hk).1))
  subst hd
  refine h _ d ⟨by simpa using hown', ow_append hown.2 hc⟩ fun u hu => ?_
  obtain ⟨ho1, hap⟩ := hother u hu
  refine ⟨ow_kept2 ho1 (fun k hk hne => hg.block k hk (fun e => hne e.symm)) hap.symm, fun k hk hu => ?_⟩
  have hkg : g = k := by simpa [Value.ownBlock] using hk
  subst hkg
  rcases hat with hat | hat
  · exact hap _ hat hu
  · have := (ho1.1.lt _ hu).2; omega
end Go.Proofs.YtejmgdpgngjiiaaGreat
/- The law AverageKeeps: its rows. -/
namespace Go.Proofs.YtejmgdpgngjiiaaGreat
open Go.RowKit

set_option maxRecDepth 100000 in
theorem keeps1 (n : Int) (b : Nat) (v : Value) (X : List Int) (w : World) (hb : b < w.heap.size) (hc : w.cell? ⟨b, 0, none⟩ = some v) (hs : Sl w v X) :
    Calls Tryz.prog 26 #[.int .i64 n, .pointer (some ⟨b, 0, none⟩)] w fun e w' => e = .returned (.bool (!X.contains n)) ∧ ∃ d, w' = bw w d := by
  have HC := Lib.hid (fun W (q : Sl W v X) => sl_Contains v X n W q)
  have HS := Lib.hid hs
  obtain ⟨a, cap, rfl, -⟩ := hs
  generalize X.contains n = r at *
  refine lay_start ?_
  go_enter Tryz.func26, Tryz.ntmps26
  go_wp2_with (go_at_call 27; refine (HC.out _ (HS.out.lay _)).mono ?_; rintro e w1 ⟨rfl, hw1⟩; rw [hw1])
  go_ret
  exact ⟨rfl, lay_ex _ _⟩
/-- The three rows of the law, up to an index. -/
structure KpR (W : World) (base : Nat) (v1 v2 v3 : Value) (l1 l2 l3 : List Int) : Prop where
  o1 : Ow W base v1 l1
  o2 : Ow W base v2 l2
  o3 : Ow W base v3 l3
  a12 : Aprt v1 v2
  a13 : Aprt v1 v3
  a23 : Aprt v2 v3
theorem KpR.nil (W : World) (base : Nat) : KpR W base (.slice none 0 0) (.slice none 0 0) (.slice none 0 0) [] [] [] := ⟨Ow.nil _ _, Ow.nil _ _, Ow.nil _ _, Aprt.nil _, Aprt.nil _, Aprt.nil _⟩
theorem KpR.on {w : World} {base : Nat} {v1 v2 v3 : Value} {l1 l2 l3 : List Int} {A B : List (Obj ⊕ Ext)} (h : KpR (lay w B) base v1 v2 v3 l1 l2 l3) : KpR (lay w (A ++ B)) base v1 v2 v3 l1 l2 l3 :=
  ⟨ow_on h.o1, ow_on h.o2, ow_on h.o3, h.a12, h.a13, h.a23⟩
theorem KpR.others1 {W : World} {base : Nat} {v1 v2 v3 : Value} {l1 l2 l3 : List Int} (h : KpR W base v1 v2 v3 l1 l2 l3) : ∀ u ∈ [(v2, l2), (v3, l3)], Ow W base u.1 u.2 ∧ Aprt v1 u.1 := by
  intro u hu
  rcases List.mem_cons.1 hu with rfl | hu
  · exact ⟨h.o2, h.a12⟩
  · rw [List.mem_singleton.1 hu]; exact ⟨h.o3, h.a13⟩
theorem KpR.others2 {W : World} {base : Nat} {v1 v2 v3 : Value} {l1 l2 l3 : List Int} (h : KpR W base v1 v2 v3 l1 l2 l3) : ∀ u ∈ [(v1, l1), (v3, l3)], Ow W base u.1 u.2 ∧ Aprt v2 u.1 := by
  intro u hu
  rcases List.mem_cons.1 hu with rfl | hu
  · exact ⟨h.o1, h.a12.symm⟩
  · rw [List.mem_singleton.1 hu]; exact ⟨h.o3, h.a23⟩
theorem KpR.others3 {W : World} {base : Nat} {v1 v2 v3 : Value} {l1 l2 l3 : List Int} (h : KpR W base v1 v2 v3 l1 l2 l3) : ∀ u ∈ [(v1, l1), (v2, l2)], Ow W base u.1 u.2 ∧ Aprt v3 u.1 := by
  intro u hu
  rcases List.mem_cons.1 hu with rfl | hu
  · exact ⟨h.o1, h.a13.symm⟩
  · rw [List.mem_singleton.1 hu]; exact ⟨h.o2, h.a23.symm⟩
theorem kpR1 {W : World} {base : Nat} {v1 v2 v3 : Value} {l1 l2 l3 : List Int} (h1 : Ow W base v1 l1) (h : ∀ u ∈ [(v2, l2), (v3, l3)], Ow W base u.1 u.2 ∧ Aprt v1 u.1) (h23 : Aprt v2 v3) : KpR W base v1 v2 v3 l1 l2 l3 :=
  ⟨h1, (h (v2, l2) (by simp)).1, (h (v3, l3) (by simp)).1, (h (v2, l2) (by simp)).2, (h (v3, l3) (by simp)).2, h23⟩
theorem kpR2 {W : World} {base : Nat} {v1 v2 v3 : Value} {l1 l2 l3 : List Int} (h1 : Ow W base v2 l2) (h : ∀ u ∈ [(v1, l1), (v3, l3)], Ow W base u.1 u.2 ∧ Aprt v2 u.1) (h13 : Aprt v1 v3) : KpR W base v1 v2 v3 l1 l2 l3 :=
  ⟨(h (v1, l1) (by simp)).1, h1, (h (v3, l3) (by simp)).1, (h (v1, l1) (by simp)).2.symm, h13, (h (v3, l3) (by simp)).2⟩
theorem kpR3 {W : World} {base : Nat} {v1 v2 v3 : Value} {l1 l2 l3 : List Int} (h1 : Ow W base v3 l3) (h : ∀ u ∈ [(v1, l1), (v2, l2)], Ow W base u.1 u.2 ∧ Aprt v3 u.1) (h12 : Aprt v1 v2) : KpR W base v1 v2 v3 l1 l2 l3 :=
  ⟨(h (v1, l1) (by simp)).1, (h (v2, l2) (by simp)).1, h1, h12, (h (v1, l1) (by simp)).2.symm, (h (v2, l2) (by simp)).2.symm⟩
/-- What Reject says of short lists of small numbers. -/
theorem rejE_ok {l : List Int} {f : Int} (h1 : 1 ≤ l.length) (h2 : l.length ≤ 1000) (f1 : 1 ≤ f) (f2 : f ≤ 100) (hb : Bd l 1099511627776) : rejE l f = 0 := by
  unfold rejE
  rw [if_neg (by omega), if_neg (by rw [outB_in hb]; simp; omega)]
theorem av_Reject_ok (v : Value) (l : List Int) (f : Int) (w : World) (hs : Sl w v l) (h1 : 1 ≤ l.length) (h2 : l.length ≤ 1000) (f1 : 1 ≤ f) (f2 : f ≤ 100) (hb : Bd l 1099511627776) :
    Calls Tryz.prog 14 #[v, .int .i64 f] w (RwE w (outI l f) 0) := by
  have h := av_Reject v l f w hs
  have e := rejE_ok h1 h2 f1 f2 hb
  rw [rejL_eq e, e] at h
  exact h
theorem lit_k16 {n : Int} (h : (Lit.int .i16 n).wf = true) : -32768 ≤ n ∧ n ≤ 32767 := by
  simp [Lit.wf, IntKind.min, IntKind.max, IntKind.signed, IntKind.bits] at h
  omega
theorem lit_ku8 {n : Int} (h : (Lit.int .u8 n).wf = true) : 0 ≤ n ∧ n ≤ 255 := by
  simp [Lit.wf, IntKind.min, IntKind.max, IntKind.signed, IntKind.bits] at h
  omega
end Go.Proofs.YtejmgdpgngjiiaaGreat
/- The law AverageKeeps. -/
namespace Go.Proofs.YtejmgdpgngjiiaaGreat
open Go.RowKit

theorem take_nthK {l : List Int} {k : Nat} (h : k < l.length) : l.take (k + 1) = l.take k ++ [nth l k] := take_nth h
theorem map_nth {l : List Int} {k : Nat} {c : Int} (h : k < l.length) : nth (l.map (· + c)) k = nth l k + c := by
  rw [nth_lt (by rw [List.length_map]; exact h), nth_lt h, List.getElem_map]
theorem box_cell {W : World} {p : Nat} {v : Value} {te : TypeId} (h : W.heap[p]? = some (.cells #[v] te (0, 0))) (d : Ext) : p < (bw W d).heap.size ∧ (bw W d).cell? ⟨p, 0, none⟩ = some v := by
  have h1 := (Array.getElem?_eq_some_iff.1 h).1
  refine ⟨Nat.lt_of_lt_of_le h1 (bw_le W d), ?_⟩
  rw [bw_cell _ _ _ _ h1]
  simp [World.cell?, h]
/-- Facts of the four calls. -/
structure KpF (l : List Int) (f g c : Int) (X Y : List Int) : Prop where
  x : outI l f = X
  y : outI l g = Y
  z : outI (l.map (· + c)) f = X
  s : outI (List.replicate l.length c) f = []
  half : 2 * X.length ≤ l.length
  sub : Y.any (fun k => !X.contains k) = false
theorem KpF.of {l : List Int} (hl : 1 ≤ l.length) {f g c : Int} (f1 : 1 ≤ f) (hfg : f ≤ g) : KpF l f g c (outI l f) (outI l g) where
  x := rfl
  y := rfl
  z := outI_add (by intro e; rw [e] at hl; simp at hl) c f
  s := outI_same (c := c) (fun x hx => (List.mem_replicate.1 hx).2) f
  half := outI_half (by intro e; rw [e] at hl; simp at hl) f1
  sub := by
    refine List.any_eq_false.2 fun x hx => ?_
    have := outI_mono (l := l) (by intro e; rw [e] at hl; simp at hl) hfg x hx
    simp [this]
set_option maxHeartbeats 4000000 in
set_option maxRecDepth 100000 in
theorem law23_Keeps {w : World} (v : Value) (l : List Int) (hs : LstK .i16 w v l) (fa : Int) (hfa : (Lit.int .u8 fa).wf = true) (mo : Int) (hmo : (Lit.int .u8 mo).wf = true) (c : Int) (hc : (Lit.int .i16 c).wf = true) :
    Calls Tryz.prog 6 #[v, .int .u8 fa, .int .u8 mo, .int .i16 c] w fun e w' => e = .returned (.bool true) ∧ ∃ d, w' = bw w d := by
  obtain ⟨a, cap, rfl, hcap, hwf, hcell⟩ := hs
  by_cases hz : l.length = 0
  · have t1 : ((l.length : Int) == 0) = true := beq_iff_eq.2 (by omega)
    clear hwf hcell hz
    generalize l.length = m at *
    refine lay_start ?_
    go_enter Tryz.func6, Tryz.ntmps6
    go_wp2_with (go_at_call 12; refine (law23_awake _).mono ?_; rintro e w' ⟨rfl, dA, rfl⟩)
    go_ret
    exact ⟨rfl, lay_ex _ _⟩
  · have t1 : ((l.length : Int) == 0) = false := beq_eq_false_iff_ne.2 (by omega)
    by_cases h16 : 16 < l.length
    · have t2 : (16 : Int) < (l.length : Int) := by omega
      clear hwf hcell hz h16
      generalize l.length = m at *
      refine lay_start ?_
      go_enter Tryz.func6, Tryz.ntmps6
      go_wp2_with (go_at_call 12; refine (law23_awake _).mono ?_; rintro e w' ⟨rfl, dA, rfl⟩)
      go_ret
      exact ⟨rfl, lay_ex _ _⟩
    · have t2 : ¬ (16 : Int) < (l.length : Int) := by omega
      have t3 : decide ((16 : Int) < (l.length : Int)) = false := decide_eq_false t2
      obtain ⟨b, o, rfl, hb, hr⟩ := hcell (by intro e; rw [e] at hz; exact hz rfl)
      have hfa' := lit_ku8 hfa
      have hmo' := lit_ku8 hmo
      have hc' := lit_k16 hc
      have hN := fun i (hi : i < l.length) => lit_k16 (hwf i hi)
      obtain ⟨r, hr1⟩ : ∃ r, fa % 100 = r := ⟨_, rfl⟩
      have kt : fa.tmod 100 = r := by rw [Int.tmod_eq_emod_of_nonneg (by omega)]; exact hr1
      have hrb : 0 ≤ r ∧ r ≤ 99 := by omega
      obtain ⟨g, hg⟩ : ∃ g, mn 100 (1 + r + mo) = g := ⟨_, rfl⟩
      have hgb : 1 + r ≤ g ∧ g ≤ 100 := by rw [← hg, mn_eq]; omega
      have HF := Lib.hid (KpF.of (l := l) (c := c) (by omega) (show 1 ≤ 1 + r by omega) hgb.1)
      have hl1 : 1 ≤ l.length := by omega
      have hl2 : l.length ≤ 16 := by omega
      have HA := Lib.hid (fun v W (q : Sl W v l) => av_Reject_ok v l (1 + r) W q hl1 (by omega) (by omega) (by omega) (fun i hi => by have := hN i hi; omega))
      have HB := Lib.hid (fun v W (q : Sl W v l) => av_Reject_ok v l g W q hl1 (by omega) (by omega) (by omega) (fun i hi => by have := hN i hi; omega))
      have HC := Lib.hid (fun v W (q : Sl W v (l.map (· + c))) => av_Reject_ok v (l.map (· + c)) (1 + r) W q (by rw [List.length_map]; exact hl1) (by rw [List.length_map]; omega) (by omega) (by omega) (fun i hi => by rw [List.length_map] at hi; rw [map_nth hi]; have := hN i hi; omega))
      have HD := Lib.hid (fun v W (q : Sl W v (List.replicate l.length c)) => av_Reject_ok v (List.replicate l.length c) (1 + r) W q (by rw [List.length_replicate]; exact hl1) (by rw [List.length_replicate]; omega) (by omega) (by omega) (fun i hi => by rw [nth_lt hi, List.getElem_replicate]; omega))
      obtain ⟨X, hX⟩ : ∃ X, outI l (1 + r) = X := ⟨_, rfl⟩
      obtain ⟨Y, hY⟩ : ∃ Y, outI l g = Y := ⟨_, rfl⟩
      rw [hX, hY] at HF
      rw [HF.out.x] at HA
      rw [HF.out.y] at HB
      rw [HF.out.z] at HC
      rw [HF.out.s] at HD
      have HM := Lib.hid (fun k (hk : k < l.length) => map_nth (c := c) hk)
      have HN := Lib.hid hN
      obtain ⟨m, hm⟩ : ∃ m, l.length = m := ⟨_, rfl⟩
      have HL := Lib.hid hm
      have HLb : Hid ((l.map (· + c)).length = m) := Lib.hid (by rw [List.length_map]; exact hm)
      rw [hm] at t1 t2 t3 hr hN hcap HN HM hl1 hl2 HD ⊢
      have HR := Lib.hid hr
      have u1 : IntKind.i64.wrap fa = fa := IntWalk.i64_in _ (by omega)
      have u2 : IntKind.i64.wrap mo = mo := IntWalk.i64_in _ (by omega)
      have u3 : IntKind.i64.wrap r = r := IntWalk.i64_in _ (by omega)
      have u4 : IntKind.i64.wrap (1 + r) = 1 + r := IntWalk.i64_in _ (by omega)
      have u5 : IntKind.i64.wrap (1 + r + mo) = 1 + r + mo := IntWalk.i64_in _ (by omega)
      have u6 : IntKind.i64.wrap c = c := IntWalk.i64_in _ (by omega)
      have kt2 : fa % 100 = r := hr1
      clear hr hN hz h16 hwf hcell hX hY hfa hmo hc hm hr1
      generalize hbl : l.map (· + c) = lb at *
      clear hbl
      refine lay_start ?_
      go_enter Tryz.func6, Tryz.ntmps6
      go_wp2_with (go_at_call 12; refine (law23_awake _).mono ?_; rintro e w' ⟨rfl, dA, rfl⟩)
      go_loopw [11, 12, 13, 45] (fun v11 v12 v13 v45 wr => ∃ (k : Nat) (dd : Ext), k ≤ m ∧ v45 = .int .i64 (k : Int) ∧ wr = lay w [.inr dd] ∧ KpR (lay w [.inr dd]) (lay w []).heap.size v11 v12 v13 (l.take k) (lb.take k) (List.replicate k c)) (fun _ _ _ v45 _ => m - (intOf v45).toNat)
      case atStart => exact ⟨0, dA, Nat.zero_le _, rfl, rfl, KpR.nil _ _⟩
      case round =>
        obtain ⟨k, dd, hk, rfl, rfl, hO⟩ := hrel
        have HO := Lib.hid hO
        clear hO
        by_cases hlt : k < m
        · have e1 := HR.out k hlt
          have x1 : (k : Int) < (m : Int) := by omega
          have x0 : (0 : Int) ≤ (k : Int) := by omega
          have hx := HN.out k hlt
          have T1 := Lib.hid (take_nth (l := l) (k := k) (by rw [HL.out]; exact hlt))
          have T2 := Lib.hid (take_nth (l := lb) (k := k) (by rw [HLb.out]; exact hlt))
          have T3 : Hid (List.replicate (k + 1) c = List.replicate k c ++ [c]) := Lib.hid List.replicate_succ'
          rw [HM.out k hlt] at T2
          have n1 : (l.take k).length ≤ 1000000000 := by rw [List.length_take]; omega
          have n2 : (lb.take k).length ≤ 1000000000 := by rw [List.length_take]; omega
          have n3 : (List.replicate k c).length ≤ 1000000000 := by rw [List.length_replicate]; omega
          generalize nth l k = x at *
          have lw1 : (Lit.int .i64 x).wf = true := lit_b (by omega)
          have lw2 : (Lit.int .i64 (x + c)).wf = true := lit_b (by omega)
          have lw3 : (Lit.int .i64 c).wf = true := lit_b (by omega)
          have y1 : IntKind.i64.wrap x = x := IntWalk.i64_in _ (by omega)
          have y2 : IntKind.i64.wrap (x + c) = x + c := IntWalk.i64_in _ (by omega)
          generalize l.take k = L1 at *
          generalize lb.take k = L2 at *
          generalize List.replicate k c = L3 at *
          go_wp2_with (first | (at_builtin; refine push_intO rfl (.tmp 49) (.tmp 52) rfl (lay w []) _ x 3 _ _ _ _ ?_ (ow_on (A := [_]) HO.out.o1) (HO.out.on (A := [_])).others1 ?_ rfl rfl n1 lw1 ?_; exact lay_below (A := [_, _]); exact lay_get w _ 0 _ rfl; intro v1 d1 h1 g1; replace h1 := Lib.hid (kpR1 h1 g1 HO.out.a23)) | (at_builtin; refine push_intO rfl (.tmp 54) (.tmp 60) rfl (lay w []) _ (x + c) 3 _ _ _ _ ?_ (ow_on (A := [_]) (B := [.inr d1]) h1.out.o2) (KpR.on (A := [_]) (B := [.inr d1]) h1.out).others2 ?_ rfl rfl n2 lw2 ?_; exact lay_below (A := [_, _]); exact lay_get w _ 0 _ rfl; intro v2 d2 h2 g2; replace h2 := Lib.hid (kpR2 h2 g2 h1.out.a13)) | (at_builtin; refine push_intO rfl (.tmp 62) (.tmp 65) rfl (lay w []) _ c 3 _ _ _ _ ?_ (ow_on (A := [_]) (B := [.inr d2]) h2.out.o3) (KpR.on (A := [_]) (B := [.inr d2]) h2.out).others3 ?_ rfl rfl n3 lw3 ?_; exact lay_below (A := [_, _]); exact lay_get w _ 0 _ rfl; intro v3 d3 h3 g3; replace h3 := Lib.hid (kpR3 h3 g3 h2.out.a12)))
          go_roundw
          case rel => exact ⟨k + 1, d3, hlt, by go_num, rfl, by rw [T1.out, T2.out, T3.out]; exact h3.out⟩
          case measure => simp [intOf]; omega
        · obtain rfl : k = m := by omega
          rw [show l.take k = l by rw [← HL.out, List.take_length], show lb.take k = lb by rw [← HLb.out, List.take_length]] at HO
          have x9 : ¬ (k : Int) < (k : Int) := by omega
          go_wp2_with fail
          refine (HA.out _ _ HO.out.o1.sl).mono ?_
          rintro e w' ⟨vx, dx, rfl, rfl, hx1⟩
          rw [lay_bw] at hx1 ⊢
          obtain ⟨ax, cx, hvx⟩ := hx1.form
          obtain ⟨q, hq⟩ : ∃ q, X.length = q := ⟨_, rfl⟩
          rw [hq] at hvx
          subst hvx
          have HX := Lib.hid hx1.sl
          have hhalf := HF.out.half
          rw [hq, HL.out] at hhalf
          clear hx1 hq
          go_wp2_with fail
          refine (HB.out _ _ (sl_on (A := [_, _]) HO.out.o1.sl)).mono ?_
          rintro e w' ⟨vy, dy, rfl, rfl, hy1⟩
          rw [lay_bw] at hy1 ⊢
          have HY := Lib.hid hy1.sl
          clear hy1
          go_wp2_with fail
          refine (HC.out _ _ (sl_on (A := [_, _, _]) HO.out.o2.sl)).mono ?_
          rintro e w' ⟨vz, dz, rfl, rfl, hz1⟩
          rw [lay_bw] at hz1 ⊢
          have HZ := Lib.hid hz1.sl
          clear hz1
          go_wp2_with fail
          refine (HD.out _ _ (sl_on (A := [_, _, _, _]) HO.out.o3.sl)).mono ?_
          rintro e w' ⟨vs, ds, rfl, rfl, hs1⟩
          rw [lay_bw] at hs1 ⊢
          obtain ⟨as1, cs1, rfl⟩ := hs1.form
          have z1 : IntKind.i64.wrap (2 * (q : Int)) = 2 * (q : Int) := IntWalk.i64_in _ (by omega)
          have z2 : ¬ (k : Int) < 2 * (q : Int) := by omega
          have z3 : decide ((k : Int) < 2 * (q : Int)) = false := decide_eq_false z2
          clear hs1
          go_wp2_with fail
          refine (sl_EqT _ _ X _ (sl_on (A := [.inr ds, .inr dz, .inr dy, .inl (.cells #[.slice ax q cx] 22 (0, 0))]) HX.out) (sl_on (A := [_]) HZ.out)).mono ?_
          rintro e w' ⟨rfl, dE, rfl⟩
          rw [lay_bw]
          have HBx := Lib.hid (box_cell (lay_get w [.inr dE, .inr ds, .inr dz, .inr dy, .inl (.cells #[.slice ax q cx] 22 (0, 0)), .inr dx, .inr dd] 4 _ rfl))
          have eI : ∀ args w, (callFunc 26 args).run Tryz.prog w = .ok (.enter 26 args) w := enters_of Tryz.func26 (by kernel_rfl) rfl
          have HYx := Lib.hid (sl_on (A := [.inr dE, .inr ds, .inr dz]) HY.out)
          have HXx := Lib.hid (sl_on (A := [.inr dE, .inr ds, .inr dz, .inr dy, .inl (.cells #[.slice ax q cx] 22 (0, 0))]) HX.out)
          have HCF := Lib.hid (sl_ContainsFuncL 26 [.pointer (some ⟨posn w [dx.n, dd.n], 0, none⟩)] (fun n => !X.contains n) vy Y (lay w [.inr dE, .inr ds, .inr dz, .inr dy, .inl (.cells #[.slice ax q cx] 22 (0, 0)), .inr dx, .inr dd]) HYx.out eI
            (fun i _ d => (keeps1 (nth Y i) (posn w [dx.n, dd.n]) (.slice ax q cx) X _ (HBx.out d).1 (HBx.out d).2 (HXx.out.bw d)).mono fun e w' ⟨k1, x, k2⟩ => ⟨k1, _, k2.trans (bw_bw _ _ _)⟩))
          rw [HF.out.sub] at HCF
          clear HBx eI
          go_wp2_with fail
          refine HCF.out.mono ?_
          rintro e w' ⟨rfl, dF, rfl⟩
          rw [lay_bw]
          go_wp2_with fail
          go_ret
          exact ⟨rfl, lay_ex _ _⟩
end Go.Proofs.YtejmgdpgngjiiaaGreat

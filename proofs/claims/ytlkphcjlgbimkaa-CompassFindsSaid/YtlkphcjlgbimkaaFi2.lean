/- Two rows that grow side by side; the swing of a table's own bearings, in plain words. -/
import Derived.Test.YtlkphcjlgbimkaaProg
import Derived.Test.YtlkphcjlgbimkaaLay
import Derived.Test.YtlkphcjlgbimkaaRegion
import Derived.Test.YtlkphcjlgbimkaaMix
import Derived.WalkKit
import Derived.WalkSpells
import Derived.WalkLawsBesides
import Derived.Lib.Hide
import Derived.BigQuiet
import Derived.Deep.AppendLies
import Derived.Test.YtlkphcjlgbimkaaSw7
import Derived.Test.YtlkphcjlgbimkaaFi1
namespace Go.Proofs.Ytlkphcjlgbimkaa
open Go.RowKit

/-- Rows in different blocks. -/
def Apart (u v : Value) : Prop := ∀ k, u.ownBlock = some k → v.ownBlock ≠ some k
theorem Apart.symm {u v : Value} (h : Apart u v) : Apart v u := fun k h1 h2 => h k h2 h1
theorem ow_kept {wb w' : World} {base : Nat} {u v : Value} {l : List Int} (h : Ow wb base u l) (hk : ∀ k, k < wb.heap.size → v.ownBlock ≠ some k → w'.heap[k]? = wb.heap[k]?) (ha : Apart u v) : Ow w' base u l := by
  refine ⟨⟨h.1.1, h.1.2.imp id ?_⟩, h.2⟩
  rintro ⟨g, cap, cur, rfl, h1, h2, h3⟩
  exact ⟨g, cap, cur, rfl, h1, (hk g (Array.getElem?_eq_some_iff.1 h2).1 (ha g rfl)).trans h2, h3⟩
theorem push_int2 {ops : Array Oper} {rest : List Oper} {o : Oper} {a : Act} {Q : Exit → Act → World → Prop} (hgd : o.guard = none) (s x : Operand)
    (ho : o.op = .call { callee := .builtin .append, args := #[s, x], argTypes := #[22, 22] })
    (W0 : World) (wb : World) (c : Int) (te : TypeId) (xb : Nat) (v u : Value) (l m : List Int) (hw : Below W0.heap.size W0 wb) (hown : Ow wb W0.heap.size v l) (hother : Ow wb W0.heap.size u m) (hap : Apart v u)
    (hcell : wb.heap[xb]? = some (.cells #[.int .i64 c] te (0, 0))) (hs : a.eval s = v) (hx : a.eval x = .slice (some ⟨xb, 0, none⟩) 1 1)
    (hn : l.length ≤ 1000000000) (hc : (Lit.int .i64 c).wf = true)
    (h : ∀ v' d, Ow (Go.Proofs.Ytlkphcjlgbimkaa.bw W0 d) W0.heap.size v' (l ++ [c]) → Ow (Go.Proofs.Ytlkphcjlgbimkaa.bw W0 d) W0.heap.size u m → Apart v' u → wpList Try.prog ops Q rest (a.put o.dst v') (Go.Proofs.Ytlkphcjlgbimkaa.bw W0 d)) :
    wpList Try.prog ops Q (o :: rest) a wb := by
  obtain ⟨i, hi, hz0, hz1, hz2⟩ := info_parts info_intS
  have hM : maxLen = 9223372036854775807 := by decide
  refine wpList_append_lies wb hgd s x 22 ho W0.heap.size 3 i (.int .i64 0) 1 8 Try.underlying22 hi hz0 hz1 hz2 rfl (by decide) v l.length (l.map (Value.int .i64)) hs hown.1 ⟨xb, 0, none⟩ 1 1 [.int .i64 c] hx rfl (World.news_of_block (cs := #[.int .i64 c]) hcell) (by simp [Value.oneCell']) (by decide) (by omega) (by omega) hw.size wb.heap.size rfl ?_
  intro g cap w' hown' hg hat _
  obtain ⟨d, hd⟩ := bw_of (w := W0) (w' := w') (hw.grown hg hw.size (fun k hk => (hown.1.lt k hk).1))
  subst hd
  refine h _ d ⟨by simpa using hown', ow_append hown.2 hc⟩ (ow_kept hother (fun k hk hne => hg.block k hk (fun e => hne e.symm)) hap.symm) (fun k hk hu => ?_)
  have hkg : g = k := by simpa [Value.ownBlock] using hk
  subst hkg
  rcases hat with hat | hat
  · exact hap _ hat hu
  · have := (hother.1.lt _ hu).2; omega

/-- The headings of a table from its end on, and the bearings that its deviations make. -/
def hdR (l : Tl) (k : Nat) : List Int := (List.range k).map fun j => hd l (l.length - 1 - j)
def bgR (l : Tl) (D : Int) (k : Nat) : List Int := (List.range k).map fun j => (D - dv l (l.length - 1 - j)) % 21600000
theorem hdR_step (l : Tl) (k : Nat) : hdR l (k + 1) = hdR l k ++ [hd l (l.length - 1 - k)] := by simp [hdR, List.range_succ]
theorem bgR_step (l : Tl) (D : Int) (k : Nat) : bgR l D (k + 1) = bgR l D k ++ [(D - dv l (l.length - 1 - k)) % 21600000] := by simp [bgR, List.range_succ]
theorem hdR_len (l : Tl) (k : Nat) : (hdR l k).length = k := by simp [hdR]
theorem bgR_len (l : Tl) (D : Int) (k : Nat) : (bgR l D k).length = k := by simp [bgR]
theorem hdR_at {l : Tl} {k i : Nat} (h : i < k) : (hdR l k).getD i 0 = hd l (l.length - 1 - i) := by simp [hdR, List.getD, h]
theorem bgR_at {l : Tl} {D : Int} {k i : Nat} (h : i < k) : (bgR l D k).getD i 0 = (D - dv l (l.length - 1 - i)) % 21600000 := by simp [bgR, List.getD, h]
theorem sgn_back {D x : Int} (h0 : -1800000 ≤ x) (h1 : x ≤ 1800000) : sgnH (D - (D - x) % 21600000) = x := by
  unfold sgnH
  split <;> omega
theorem ent_rev {l : Tl} {B V : Int} (T : Tab l) : entH (hdR l l.length) (bgR l (B - V) l.length) B V l.length = l.reverse := by
  apply List.ext_getElem?
  intro i
  by_cases hi : i < l.length
  · have e1 := entH_at (h := hdR l l.length) (b := bgR l (B - V) l.length) (B := B) (V := V) hi
    rw [hdR_at hi, bgR_at hi, sgn_back (T.d0 _ (by omega)) (T.d1 _ (by omega))] at e1
    rw [pair_eq (by rw [entH_len]; exact hi), e1.1, e1.2, List.getElem?_reverse hi, pair_eq (by omega)]
  · rw [List.getElem?_eq_none (by rw [entH_len]; omega), List.getElem?_eq_none (by rw [List.length_reverse]; omega)]
theorem tab_asc {l : Tl} (T : Tab l) : AscH l := asc_of_adj fun i hi => T.asc i hi
theorem one_rev {l : Tl} (T : Tab l) : OneH l.reverse := (OneH.of_asc (tab_asc T)).perm (List.reverse_perm l).symm
theorem srt_rev {l : Tl} (T : Tab l) : srtH l.reverse l.length = l := by
  have h := sorted_eq (l := l.reverse) (s := l) (one_rev T) (List.reverse_perm l).symm ((tab_asc T).imp fun h => Int.le_of_lt h)
  rw [List.length_reverse] at h
  exact h.symm
theorem head_ok {n : Int} (h0 : 0 ≤ n) (h1 : n < 21600000) : headB n = true := by simp [headB]; omega
theorem swg_tab {l : Tl} {B V : Int} (T : Tab l) (hl : 0 < l.length) (b0 : 0 ≤ B) (b1 : B < 21600000) (v0 : -10800000 ≤ V) (v1 : V ≤ 10800000) :
    swgE (hdR l l.length) (bgR l (B - V) l.length) B V = 0 ∧ swgL (hdR l l.length) (bgR l (B - V) l.length) B V = l := by
  have hR : swgR (hdR l l.length) (bgR l (B - V) l.length) B V = true := by
    unfold swgR
    rw [head_ok b0 b1, show withB V 10800000 = true by simp [withB]; omega, Bool.and_true, Bool.and_true, Bool.and_eq_true, List.all_eq_true, List.all_eq_true]
    refine ⟨fun x hx => ?_, fun x hx => ?_⟩
    · obtain ⟨j, hj, rfl⟩ := List.mem_map.1 hx
      have := List.mem_range.1 hj
      exact head_ok (T.h0 _ (by omega)) (T.h1 _ (by omega))
    · obtain ⟨j, hj, rfl⟩ := List.mem_map.1 hx
      exact head_ok (by omega) (by omega)
  have hE : swgE (hdR l l.length) (bgR l (B - V) l.length) B V = 0 := by
    unfold swgE
    rw [hdR_len, bgR_len, if_neg (fun h => h rfl), if_neg (by omega), if_neg (by rw [hR]; decide), ent_rev T, if_pos (one_rev T), srt_rev T, if_pos (vB_iff.2 T)]
  refine ⟨hE, ?_⟩
  unfold swgL
  rw [if_pos hE, hdR_len, ent_rev T, srt_rev T]
theorem agr_self {z0 z1 d : Int} (hz : z0 ≤ z1) : agrB (ebL (z0 - d) (z1 - d) z0 z1) (ebH (z0 - d) (z1 - d) z0 z1) d d = true := by
  unfold agrB ebL ebH
  rw [Bool.or_eq_true, decide_eq_true_eq, decide_eq_true_eq]
  by_cases h : ebW (z0 - d) (z1 - d) z0 z1
  · rw [if_pos h, if_pos h]; left; omega
  · rw [if_neg h, if_neg h]
    have h' : ¬ 21600000 ≤ (z1 - (z0 - d)) - (z0 - (z1 - d)) := h
    left
    unfold signedI
    split <;> omega
theorem eb_bd {z0 z1 d : Int} (hz : z0 ≤ z1) : ebL (z0 - d) (z1 - d) z0 z1 ≤ ebH (z0 - d) (z1 - d) z0 z1 ∧ -10800000 ≤ ebL (z0 - d) (z1 - d) z0 z1 ∧ ebL (z0 - d) (z1 - d) z0 z1 < 10800000 ∧ ebH (z0 - d) (z1 - d) z0 z1 - ebL (z0 - d) (z1 - d) z0 z1 ≤ 21600000 := by
  unfold ebL ebH
  by_cases h : ebW (z0 - d) (z1 - d) z0 z1
  · rw [if_pos h, if_pos h]; omega
  · rw [if_neg h, if_neg h]
    have h' : ¬ 21600000 ≤ (z1 - (z0 - d)) - (z0 - (z1 - d)) := h
    have := signedI_bd (z0 - (z1 - d))
    omega
end Go.Proofs.Ytlkphcjlgbimkaa

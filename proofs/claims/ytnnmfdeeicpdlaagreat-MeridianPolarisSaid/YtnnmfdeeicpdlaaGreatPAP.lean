/- Contracts and plain laws, several texts in one: DgR; AvP; SoP; So1; So2; So3; Dib; Dic; Did -/
import Derived.Test.YtnnmfdeeicpdlaaGreatProg
import Derived.WalkKit
import Derived.WalkSpells
import Derived.WalkLawsBesides
import Derived.Lib.Hide
import Derived.BigQuiet
import Derived.Laws.MakeOwn
import Derived.Laws.Entries
import Derived.Test.YtnnmfdeeicpdlaaGreatPAA
import Derived.Test.YtnnmfdeeicpdlaaGreatPAB
import Derived.Test.YtnnmfdeeicpdlaaGreatPAO
/- Digits: product and quotient, step by step. The plain law. No function of the program. -/
namespace Go.Proofs.YtnnmfdeeicpdlaaGreat

structure TmI (a b : List Int) (i k : Nat) (out : List Int) (c : Int) : Prop where
  len : out.length = a.length + b.length
  dg : Dg out
  c0 : 0 ≤ c
  c1 : c < dB
  val : valD out + dB ^ (i + k) * c = valD (a.take i) * valD b + dB ^ i * (nth a i * valD (b.take k))
  zero : ∀ j, i + b.length ≤ j → nth out j = 0
structure TmO (a b : List Int) (i : Nat) (out : List Int) : Prop where
  len : out.length = a.length + b.length
  dg : Dg out
  val : valD out = valD (a.take i) * valD b
  zero : ∀ j, i + b.length ≤ j → nth out j = 0
theorem nth_repl (n j : Nat) : nth (List.replicate n 0) j = 0 := by
  by_cases h : j < n
  · rw [nth_in (by rw [List.length_replicate]; exact h), List.getElem_replicate]
  · exact nth_out (by rw [List.length_replicate]; omega)
theorem TmO.start (a b : List Int) : TmO a b 0 (List.replicate (a.length + b.length) 0) :=
  ⟨List.length_replicate, fun d hd => by rw [List.eq_of_mem_replicate hd]; exact ⟨Int.le_refl _, dB_pos⟩, by rw [valD_zero]; simp [valD], fun j _ => nth_repl _ j⟩
theorem TmO.row {a b : List Int} {i : Nat} {out : List Int} (h : TmO a b i out) : TmI a b i 0 out 0 :=
  ⟨h.len, h.dg, Int.le_refl _, dB_pos, by rw [h.val]; simp [valD], h.zero⟩
theorem TmI.step {a b : List Int} {i k : Nat} {out : List Int} {c d : Int} (ha : Dg a) (hb : Dg b) (h : TmI a b i k out c) (hi : i < a.length) (hk : k < b.length) (hd : d = nth out (i + k) + nth a i * nth b k + c) :
    0 ≤ d ∧ d < dB * dB ∧ TmI a b i (k + 1) (out.set (i + k) (d % dB)) (d / dB) := by
  obtain ⟨a0, a1⟩ := ha.nth i
  obtain ⟨b0, b1⟩ := hb.nth k
  obtain ⟨o0, o1⟩ := h.dg.nth (i + k)
  have hc0 := h.c0
  have hc1 := h.c1
  have hp := dB_pos
  have q0 : 0 ≤ nth a i * nth b k := Int.mul_nonneg a0 b0
  have q1 : nth a i * nth b k ≤ (dB - 1) * (dB - 1) := Int.le_trans (Int.mul_le_mul_of_nonneg_right (by omega) b0) (Int.mul_le_mul_of_nonneg_left (by omega) (by omega))
  have q2 : (dB - 1) * (dB - 1) = dB * dB - 2 * dB + 1 := by decide
  have d0 : 0 ≤ d := by omega
  have d1 : d < dB * dB := by omega
  have m0 : 0 ≤ d % dB := Int.emod_nonneg _ (by omega)
  have m1 : d % dB < dB := Int.emod_lt_of_pos _ hp
  have e1 : d = dB * (d / dB) + d % dB := (Int.mul_ediv_add_emod d dB).symm
  refine ⟨d0, d1, by rw [List.length_set]; exact h.len, h.dg.set _ ⟨m0, m1⟩, Int.ediv_nonneg d0 (by omega), Int.ediv_lt_of_lt_mul hp d1, ?_, fun j hj => ?_⟩
  · rw [valD_set (by rw [h.len]; omega), valD_take]
    have hv := h.val
    have e2 : dB ^ (i + (k + 1)) * (d / dB) = dB ^ (i + k) * (dB * (d / dB)) := by rw [← Nat.add_assoc, Int.pow_succ, Int.mul_assoc]
    have e3 : dB ^ (i + k) * (d % dB - nth out (i + k)) + dB ^ (i + k) * (dB * (d / dB)) = dB ^ (i + k) * (nth a i * nth b k) + dB ^ (i + k) * c := by
      rw [← Int.mul_add, ← Int.mul_add]; congr 1; omega
    have e4 : dB ^ i * (nth a i * (valD (b.take k) + dB ^ k * nth b k)) = dB ^ i * (nth a i * valD (b.take k)) + dB ^ (i + k) * (nth a i * nth b k) := by
      rw [Int.mul_add, Int.mul_add, Int.mul_left_comm (nth a i), ← Int.mul_assoc (dB ^ i) (dB ^ k), ← Int.pow_add]
    rw [e2, e4]; omega
  · have hj2 : i + k ≠ j := by omega
    rw [nth_set _ _ _ (by rw [h.len]; omega), if_neg (Ne.symm hj2)]
    exact h.zero j hj
theorem TmI.done {a b : List Int} {i k : Nat} {out : List Int} {c : Int} (h : TmI a b i k out c) (hi : i < a.length) (hk : k = b.length) : TmO a b (i + 1) (out.set (i + b.length) c) := by
  subst hk
  have hz := h.zero (i + b.length) (Nat.le_refl _)
  refine ⟨by rw [List.length_set]; exact h.len, h.dg.set _ ⟨h.c0, h.c1⟩, ?_, fun j hj => ?_⟩
  · have hv := h.val
    rw [valD_set (by rw [h.len]; omega), hz, Int.sub_zero, hv, List.take_of_length_le (l := b) (Nat.le_refl _), valD_take, Int.add_mul, Int.mul_assoc]
  · rw [nth_set _ _ _ (by rw [h.len]; omega), if_neg (by omega)]
    exact h.zero j (by omega)
theorem TmO.done {a b : List Int} {i : Nat} {out : List Int} (h : TmO a b i out) (hi : i = a.length) : Dg out ∧ valD out = valD a * valD b := by
  subst hi
  have := h.val
  rw [List.take_of_length_le (l := a) (Nat.le_refl _)] at this
  exact ⟨h.dg, this⟩
structure OvI (a b : List Int) (i : Nat) (out rest : List Int) : Prop where
  len : out.length = a.length
  dg : Dg out
  can : Can rest
  val : valD (a.drop i) = valD (out.drop i) * valD b + valD rest
  lt : valD rest < valD b
theorem OvI.start {a b : List Int} (hb : 0 < valD b) : OvI a b a.length (List.replicate a.length 0) [] :=
  ⟨List.length_replicate, fun d hd => by rw [List.eq_of_mem_replicate hd]; exact ⟨Int.le_refl _, dB_pos⟩, Can.nil, by rw [List.drop_of_length_le (Nat.le_refl _), List.drop_of_length_le (by rw [List.length_replicate]; exact Nat.le_refl _)]; simp [valD], hb⟩
theorem OvI.step {a b : List Int} {i : Nat} {out rest r2 : List Int} {m r : Int} (h : OvI a b (i + 1) out rest) (hi : i < a.length) (hr : r = nth a i + dB * valD rest) (hm : 0 ≤ m ∧ m < dB) (h2 : r < valD b * (m + 1)) (hr2 : Can r2) (hv : valD r2 = r - valD b * m) :
    OvI a b i (out.set i m) r2 := by
  have hl : i < out.length := by rw [h.len]; exact hi
  refine ⟨by rw [List.length_set]; exact h.len, h.dg.set _ hm, hr2, ?_, by rw [hv]; rw [Int.mul_add, Int.mul_one] at h2; omega⟩
  have e1 : (out.set i m).drop i = m :: out.drop (i + 1) := by
    rw [List.drop_eq_getElem_cons (by rw [List.length_set]; exact hl), List.getElem_set_self, List.drop_set_of_lt (by omega)]
  rw [List.drop_eq_getElem_cons hi, e1, valD, valD, h.val, hv, hr, ← nth_in hi, Int.add_mul, Int.mul_add, Int.mul_assoc, Int.mul_comm m]
  omega
theorem OvI.room {a b : List Int} {i : Nat} {out rest : List Int} (ha : Dg a) (h : OvI a b (i + 1) out rest) : nth a i + dB * valD rest < valD b * dB := by
  have h1 := (ha.nth i).2
  have h2 := Int.mul_le_mul_of_nonneg_left (show valD rest + 1 ≤ valD b from h.lt) (Int.le_of_lt dB_pos)
  rw [Int.mul_add, Int.mul_one] at h2
  rw [Int.mul_comm (valD b)]
  omega
theorem OvI.done {a b : List Int} {out rest : List Int} (h : OvI a b 0 out rest) (hr0 : 0 ≤ valD rest) : valD out = valD a / valD b ∧ valD rest = valD a % valD b := by
  have hv := h.val
  rw [List.drop_zero, List.drop_zero] at hv
  have hb : 0 < valD b := by have := h.lt; omega
  have h1 : valD a / valD b = valD out := by
    rw [hv, Int.add_comm, Int.add_mul_ediv_right _ _ (by omega), Int.ediv_eq_zero_of_lt hr0 h.lt, Int.zero_add]
  have h2 := Int.mul_ediv_add_emod (valD a) (valD b)
  rw [h1, Int.mul_comm] at h2
  exact ⟨h1.symm, by omega⟩
end Go.Proofs.YtnnmfdeeicpdlaaGreat
/- Medians and outliers: the plain law. No function of the program. -/
namespace Go.Proofs.YtnnmfdeeicpdlaaGreat

def srtI (l : List Int) : List Int := l.mergeSort fun x y => decide (x ≤ y)
theorem srtI_len (l : List Int) : (srtI l).length = l.length := List.length_mergeSort l
theorem mem_srtI {l : List Int} {x : Int} : x ∈ srtI l ↔ x ∈ l := List.mem_mergeSort
def medI (l : List Int) : Int := nth (srtI l) ((l.length - 1) / 2)
theorem nth_lt {l : List Int} {i : Nat} (h : i < l.length) : nth l i = l[i] := by
  unfold nth; rw [List.getD_eq_getElem?_getD, List.getElem?_eq_getElem h]; rfl
theorem medI_mem {l : List Int} (h : l ≠ []) : medI l ∈ l := by
  have hl := List.length_pos_iff.2 h
  have : (l.length - 1) / 2 < (srtI l).length := by rw [srtI_len]; omega
  unfold medI
  rw [nth_lt this]
  exact mem_srtI.1 (List.getElem_mem this)
def farI (l : List Int) : List Int := l.map fun n => max (n - medI l) (-(n - medI l))
theorem farI_len (l : List Int) : (farI l).length = l.length := List.length_map _
end Go.Proofs.YtnnmfdeeicpdlaaGreat
/- Insertion: the plain law. No function of the program. -/
namespace Go.Proofs.YtnnmfdeeicpdlaaGreat

def InsI (l : List Int) (i k : Nat) : Prop := ∀ a b, a < b → b ≤ i → b ≠ k → nth l a ≤ nth l b
def AscTo (l : List Int) (i : Nat) : Prop := ∀ a b, a < b → b < i → nth l a ≤ nth l b
def swpI (l : List Int) (k : Nat) : List Int := (l.set k (nth l (k - 1))).set (k - 1) (nth l k)
theorem nth_set1 {l : List Int} {i j : Nat} {x : Int} (h : i < l.length) : nth (l.set i x) j = if i = j then x else nth l j := by
  unfold nth
  simp only [List.getD_eq_getElem?_getD, List.getElem?_set]
  by_cases e : i = j
  · subst e; simp [h]
  · simp [e]
theorem swpI_nth {l : List Int} {k j : Nat} (h : k < l.length) (h0 : 0 < k) : nth (swpI l k) j = if j = k then nth l (k - 1) else if j = k - 1 then nth l k else nth l j := by
  unfold swpI
  rw [nth_set1 (by rw [List.length_set]; omega), nth_set1 h]
  by_cases e1 : j = k
  · rw [if_pos e1, if_neg (by omega), if_pos e1.symm]
  · rw [if_neg e1]
    by_cases e2 : j = k - 1
    · rw [if_pos e2, if_pos e2.symm]
    · rw [if_neg e2, if_neg (fun h => e2 h.symm), if_neg (fun h => e1 h.symm)]
theorem InsI.start {l : List Int} {i : Nat} (h : AscTo l i) : InsI l i i := fun a b h1 h2 h3 => h a b h1 (by omega)
theorem InsI.step {l : List Int} {i k : Nat} (h : InsI l i k) (h0 : 0 < k) (hk : k ≤ i) (hi : i < l.length) (hlt : nth l k < nth l (k - 1)) : InsI (swpI l k) i (k - 1) := by
  intro a b h1 h2 h3
  have hkl : k < l.length := by omega
  rw [swpI_nth hkl h0, swpI_nth hkl h0]
  by_cases e1 : b = k
  · subst e1
    rw [if_pos rfl, if_neg (by omega)]
    by_cases e2 : a = b - 1
    · rw [if_pos e2]; omega
    · rw [if_neg e2]; exact h a (b - 1) (by omega) (by omega) (by omega)
  · rw [if_neg e1, if_neg h3]
    by_cases e2 : a = k
    · rw [if_pos e2]; exact h (k - 1) b (by omega) h2 e1
    · rw [if_neg e2]
      by_cases e3 : a = k - 1
      · rw [if_pos e3]; exact h k b (by omega) h2 e1
      · rw [if_neg e3]; exact h a b h1 h2 e1
theorem AscTo.pair {l : List Int} (h : AscTo l l.length) : l.Pairwise (· ≤ ·) := by
  refine List.pairwise_iff_getElem.2 fun i j hi hj hij => ?_
  have := h i j hij hj
  rw [nth_lt hi, nth_lt hj] at this
  exact this
theorem AscTo.one (l : List Int) : AscTo l 1 := fun a b h1 h2 => by omega
end Go.Proofs.YtnnmfdeeicpdlaaGreat
/- The reference of average: Sorted. -/
namespace Go.Proofs.YtnnmfdeeicpdlaaGreat
open Go.RowKit

structure SoI (W : World) (base g m c : Nat) (l L : List Int) : Prop where
  own : Ow W base (.slice (some ⟨g, 0, none⟩) m c) L
  len : L.length = m
  perm : L.Perm l
theorem SoI.on {w : World} {d d2 : Ext} {base g m c : Nat} {l L : List Int} (h : SoI (lay w [.inr d2]) base g m c l L) : SoI (lay w [.inr d, .inr d2]) base g m c l L := ⟨ow_on (A := [.inr d]) h.own, h.len, h.perm⟩
end Go.Proofs.YtnnmfdeeicpdlaaGreat
/- The reference of average: Lower, distance. -/
namespace Go.Proofs.YtnnmfdeeicpdlaaGreat
open Go.RowKit

end Go.Proofs.YtnnmfdeeicpdlaaGreat
/- The reference of average: Outliers. -/
namespace Go.Proofs.YtnnmfdeeicpdlaaGreat
open Go.RowKit

theorem lit_b {n : Int} (h : -4611686018427387904 ≤ n ∧ n ≤ 4611686018427387904) : (Lit.int .i64 n).wf = true := by
  simp [Lit.wf, IntKind.min, IntKind.max, IntKind.signed, IntKind.bits]
  omega
theorem far_nth {l : List Int} {k : Nat} (h : k < l.length) : nth (farI l) k = max (nth l k - medI l) (-(nth l k - medI l)) := by
  rw [nth_lt (by rw [farI_len]; exact h), nth_lt h]
  simp [farI]
def Bd (l : List Int) (B : Int) : Prop := ∀ i, i < l.length → -B ≤ nth l i ∧ nth l i ≤ B
theorem Bd.mem {l : List Int} {B : Int} (h : Bd l B) : ∀ x ∈ l, -B ≤ x ∧ x ≤ B := by
  intro x hx
  obtain ⟨i, hi, rfl⟩ := List.getElem_of_mem hx
  have := h i hi
  rw [nth_lt hi] at this; exact this
theorem Bd.med {l : List Int} {B : Int} (h : Bd l B) (hl : 1 ≤ l.length) : -B ≤ medI l ∧ medI l ≤ B := h.mem _ (medI_mem (by intro e; rw [e] at hl; simp at hl))
theorem Bd.far {l : List Int} {B : Int} (h : Bd l B) (hl : 1 ≤ l.length) : Bd (farI l) (2 * B) := by
  intro i hi
  rw [farI_len] at hi
  rw [far_nth hi]
  have h1 := h.med hl
  have h2 := h i hi
  omega
end Go.Proofs.YtnnmfdeeicpdlaaGreat
/- The reference's digits: Sum. -/
namespace Go.Proofs.YtnnmfdeeicpdlaaGreat
open Go.RowKit

def RwD (w : World) (p : List Int → Prop) (e : Ending) (w' : World) : Prop := ∃ l v d, p l ∧ e = .returned v ∧ w' = bw w d ∧ Ow (bw w d) w.heap.size v l
theorem dB_eq : dB = 268435456 := rfl
set_option maxHeartbeats 4000000 in
set_option maxRecDepth 100000 in
theorem dg_Sum (va vb : Value) (a b : List Int) (w : World) (ha : Sl w va a) (hb : Sl w vb b) (ca : Can a) (cb : Can b) (la : a.length ≤ 1000000) (lb : b.length ≤ 1000000) :
    Calls Tryz.prog 339 #[va, vb] w (RwD w fun l => Can l ∧ valD l = valD a + valD b ∧ l.length ≤ max a.length b.length + 1) := by
  obtain ⟨a1, c1, rfl, hc1, hw1, hx1⟩ := ha
  obtain ⟨a2, c2, rfl, hc2, hw2, hx2⟩ := hb
  have HX1 := Lib.hid hx1
  have HX2 := Lib.hid hx2
  have HCA := Lib.hid (And.intro ca cb)
  obtain ⟨m, hm⟩ : ∃ m, a.length = m := ⟨_, rfl⟩
  obtain ⟨q, hq⟩ : ∃ q, b.length = q := ⟨_, rfl⟩
  have HE := Lib.hid (And.intro hm hq)
  obtain ⟨M, hM⟩ : ∃ M, max m q = M := ⟨_, rfl⟩
  have hM2 : m ≤ M ∧ q ≤ M ∧ (M = m ∨ M = q) ∧ M ≤ 1000000 := by omega
  rw [hm]
  rw [hq]
  clear hx1 hx2 hw1 hw2 ca cb hm hq hM la lb
  refine lay_start ?_
  go_enter Tryz.func339, Tryz.ntmps339
  go_wp2_with fail
  go_loopw [5, 6, 7] (fun v5 v6 v7 wr => ∃ (i : Nat) (c : Int) (out : List Int) (dd : Ext), v7 = .int .i64 (i : Int) ∧ v6 = .int .i64 c ∧ wr = lay w [.inr dd] ∧ Ow (lay w [.inr dd]) (lay w []).heap.size v5 out ∧ SumI a b i out c ∧ i ≤ M + 1 ∧ (i = M + 1 → c = 0)) (fun _ _ v7 _ => M + 1 - (intOf v7).toNat)
  case atStart => exact ⟨0, 0, [], noExt _, rfl, rfl, (bw_noExt _).symm, Ow.nil _ _, SumI.start a b, by omega, fun h => by omega⟩
  case round =>
    obtain ⟨i, c, out, dd, rfl, rfl, rfl, hO, hI, hi, hc⟩ := hrel
    have HO := Lib.hid hO
    have HI := Lib.hid hI
    have hc0 := hI.c0
    have hcc := hI.c1
    have hlen : out.length ≤ 1000000000 := by rw [hI.len]; omega
    clear hO hI
    by_cases hgo : i < m ∨ i < q ∨ 0 < c
    · have hiM : i ≤ M := by
        rcases Nat.lt_or_ge M i with h | h
        · have := hc (by omega); omega
        · exact h
      have HN := Lib.hid (HI.out.step HCA.out.1 HCA.out.2 (by rw [HE.out.1, HE.out.2]; exact hgo))
      have na := HCA.out.1.1.nth i
      have nb := HCA.out.2.1.nth i
      have za : ¬ i < m → nth a i = 0 := fun h => nth_out (by rw [HE.out.1]; omega)
      have zb : ¬ i < q → nth b i = 0 := fun h => nth_out (by rw [HE.out.2]; omega)
      rw [dB_eq] at na nb HN
      obtain ⟨S, hS⟩ : ∃ S, c + nth a i + nth b i = S := ⟨_, rfl⟩
      rw [hS] at HN
      have hSb : 0 ≤ S ∧ S ≤ 536870912 := by omega
      have kS : IntKind.i64.wrap S = S := IntWalk.i64_in _ (by omega)
      have e1 : S.tmod 268435456 = S % 268435456 := Int.tmod_eq_emod_of_nonneg hSb.1
      have e2 : S.tdiv 268435456 = S / 268435456 := Int.tdiv_eq_ediv_of_nonneg hSb.1
      obtain ⟨R, hR⟩ : ∃ R, S % 268435456 = R := ⟨_, rfl⟩
      obtain ⟨K, hK⟩ : ∃ K, S / 268435456 = K := ⟨_, rfl⟩
      rw [hR] at e1 HN
      rw [hK] at e2 HN
      have kR : IntKind.i64.wrap R = R := IntWalk.i64_in _ (by omega)
      have kK : IntKind.i64.wrap K = K := IntWalk.i64_in _ (by omega)
      have lw : (Lit.int .i64 R).wf = true := lit_b (by omega)
      have HZ : Hid (i + 1 = M + 1 → K = 0) := Lib.hid fun h => by
        have h1 := za (by omega)
        have h2 := zb (by omega)
        omega
      have HiM := Lib.hid hiM
      have w3 : IntKind.i64.wrap ((i : Int) + 1) = (i : Int) + 1 := IntWalk.i64_in _ (by omega)
      have x0 : (0 : Int) ≤ (i : Int) := by omega
      by_cases h1 : i < m
      · obtain ⟨b1, o1, rfl, hb1, hcell1⟩ := HX1.out (by intro h; have := HE.out.1; rw [h] at this; simp at this; omega)
        have k1 := hcell1 i (by rw [HE.out.1]; exact h1)
        have x1 : (i : Int) < (m : Int) := by omega
        have x1d := decide_eq_true x1
        clear hcell1 za
        by_cases h2 : i < q
        · obtain ⟨b2, o2, rfl, hb2, hcell2⟩ := HX2.out (by intro h; have := HE.out.2; rw [h] at this; simp at this; omega)
          have k2 := hcell2 i (by rw [HE.out.2]; exact h2)
          have x2 : (i : Int) < (q : Int) := by omega
          clear hcell2 zb
          obtain ⟨S1, hS1⟩ : ∃ S1, c + nth a i = S1 := ⟨_, rfl⟩
          have kS1 : IntKind.i64.wrap S1 = S1 := IntWalk.i64_in _ (by omega)
          rw [hS1] at hS
          clear hR hK na nb hgo
          generalize nth a i = A at *
          generalize nth b i = B at *
          clear hc
          go_wp2_with (first | (at_builtin; refine push_int rfl _ _ rfl (lay w []) _ (R) 3 _ _ _ ?_ (ow_on (A := [_]) HO.out) ?_ rfl rfl hlen lw ?_; exact lay_below (A := [_, _]); exact lay_get w _ 0 _ rfl; intro v' d' hv'))
          go_roundw
          case rel => exact ⟨i + 1, K, out ++ [R], d', by go_num, rfl, rfl, hv', HN.out, by have := HiM.out; omega, HZ.out⟩
          case measure => have := HiM.out; simp [intOf]; omega
        · have x2 : ¬ (i : Int) < (q : Int) := by omega
          have hB := zb h2
          have hS1 : c + nth a i = S := by omega
          clear zb hS hR hK na nb hgo hB
          generalize nth a i = A at *
          clear hc
          go_wp2_with (first | (at_builtin; refine push_int rfl _ _ rfl (lay w []) _ (R) 3 _ _ _ ?_ (ow_on (A := [_]) HO.out) ?_ rfl rfl hlen lw ?_; exact lay_below (A := [_, _]); exact lay_get w _ 0 _ rfl; intro v' d' hv'))
          go_roundw
          case rel => exact ⟨i + 1, K, out ++ [R], d', by go_num, rfl, rfl, hv', HN.out, by have := HiM.out; omega, HZ.out⟩
          case measure => have := HiM.out; simp [intOf]; omega
      · have x1 : ¬ (i : Int) < (m : Int) := by omega
        have x1d := decide_eq_false x1
        have hA := za h1
        by_cases h2 : i < q
        · obtain ⟨b2, o2, rfl, hb2, hcell2⟩ := HX2.out (by intro h; have := HE.out.2; rw [h] at this; simp at this; omega)
          have k2 := hcell2 i (by rw [HE.out.2]; exact h2)
          have x2 : (i : Int) < (q : Int) := by omega
          have x2d := decide_eq_true x2
          have hS1 : c + nth b i = S := by omega
          clear zb za hS hR hK na nb hgo hcell2 hA
          generalize nth b i = B at *
          clear hc
          go_wp2_with (first | (at_builtin; refine push_int rfl _ _ rfl (lay w []) _ (R) 3 _ _ _ ?_ (ow_on (A := [_]) HO.out) ?_ rfl rfl hlen lw ?_; exact lay_below (A := [_, _]); exact lay_get w _ 0 _ rfl; intro v' d' hv'))
          go_roundw
          case rel => exact ⟨i + 1, K, out ++ [R], d', by go_num, rfl, rfl, hv', HN.out, by have := HiM.out; omega, HZ.out⟩
          case measure => have := HiM.out; simp [intOf]; omega
        · have x2 : ¬ (i : Int) < (q : Int) := by omega
          have x2d := decide_eq_false x2
          have x3 : 0 < c := by omega
          have x3d := decide_eq_true x3
          have hB := zb h2
          obtain rfl : c = S := by omega
          clear zb za hS hR hK na nb hgo hA hB
          clear hc
          go_wp2_with (first | (at_builtin; refine push_int rfl _ _ rfl (lay w []) _ (R) 3 _ _ _ ?_ (ow_on (A := [_]) HO.out) ?_ rfl rfl hlen lw ?_; exact lay_below (A := [_, _]); exact lay_get w _ 0 _ rfl; intro v' d' hv'))
          go_roundw
          case rel => exact ⟨i + 1, K, out ++ [R], d', by go_num, rfl, rfl, hv', HN.out, by have := HiM.out; omega, HZ.out⟩
          case measure => have := HiM.out; simp [intOf]; omega
    · have x1 : ¬ (i : Int) < (m : Int) := by omega
      have x2 : ¬ (i : Int) < (q : Int) := by omega
      have x3 : ¬ 0 < c := by omega
      have x1d := decide_eq_false x1
      have x2d := decide_eq_false x2
      have x3d := decide_eq_false x3
      have HD := Lib.hid (HI.out.done (by rw [HE.out.1]; omega) (by rw [HE.out.2]; omega) x3)
      clear hgo hc
      go_wp2_with fail
      go_ret
      exact ⟨out, _, dd, ⟨HD.out.1, HD.out.2, by rw [HI.out.len]; have h1 := HE.out.1; have h2 := HE.out.2; omega⟩, rfl, rfl, HO.out⟩
end Go.Proofs.YtnnmfdeeicpdlaaGreat
/- The reference's digits: Less. -/
namespace Go.Proofs.YtnnmfdeeicpdlaaGreat
open Go.RowKit

set_option maxHeartbeats 4000000 in
set_option maxRecDepth 100000 in
theorem dg_Less (va vb : Value) (a b : List Int) (w : World) (ha : Sl w va a) (hb : Sl w vb b) (ca : Can a) (cb : Can b) (la : a.length ≤ 1000000) (hv : valD b ≤ valD a) :
    Calls Tryz.prog 340 #[va, vb] w (RwD w fun l => Can l ∧ valD l = valD a - valD b ∧ l.length ≤ a.length) := by
  have hlen0 : b.length ≤ a.length := by
    rcases Nat.lt_or_ge a.length b.length with h | h
    · have := cb.short ca.1 h; omega
    · exact h
  obtain ⟨a1, c1, rfl, hc1, hw1, hx1⟩ := ha
  obtain ⟨a2, c2, rfl, hc2, hw2, hx2⟩ := hb
  have HX1 := Lib.hid hx1
  have HX2 := Lib.hid hx2
  have HCA := Lib.hid (And.intro ca cb)
  have HV := Lib.hid hv
  obtain ⟨m, hm⟩ : ∃ m, a.length = m := ⟨_, rfl⟩
  obtain ⟨q, hq⟩ : ∃ q, b.length = q := ⟨_, rfl⟩
  have HE := Lib.hid (And.intro hm hq)
  rw [hm] at la hlen0 ⊢
  rw [hq] at hlen0 ⊢
  clear hx1 hx2 hw1 hw2 ca cb hm hq hv
  refine lay_start ?_
  go_enter Tryz.func340, Tryz.ntmps340
  go_wp2_with fail
  go_loopw [5, 6, 7] (fun v5 v6 v7 wr => ∃ (i : Nat) (c : Int) (out : List Int) (dd : Ext), i ≤ m ∧ v7 = .int .i64 (i : Int) ∧ v6 = .int .i64 c ∧ wr = lay w [.inr dd] ∧ Ow (lay w [.inr dd]) (lay w []).heap.size v5 out ∧ LesI a b i out c) (fun _ _ v7 _ => m - (intOf v7).toNat)
  case atStart => exact ⟨0, 0, [], noExt _, Nat.zero_le _, rfl, rfl, (bw_noExt _).symm, Ow.nil _ _, LesI.start a b⟩
  case round =>
    obtain ⟨i, c, out, dd, hi, rfl, rfl, rfl, hO, hI⟩ := hrel
    have HO := Lib.hid hO
    have HI := Lib.hid hI
    have hcc := hI.c01
    have hlen : out.length ≤ 1000000000 := by rw [hI.len]; omega
    clear hO hI
    by_cases h1 : i < m
    · have na := HCA.out.1.1.nth i
      have nb := HCA.out.2.1.nth i
      have zb : ¬ i < q → nth b i = 0 := fun h => nth_out (by rw [HE.out.2]; omega)
      rw [dB_eq] at na nb
      obtain ⟨D, hD⟩ : ∃ D, nth a i - c - nth b i = D := ⟨_, rfl⟩
      have HN := Lib.hid (HI.out.step HCA.out.1.1 HCA.out.2.1 (d := D) hD.symm rfl rfl)
      rw [dB_eq] at HN
      have hDb : -268435457 ≤ D ∧ D ≤ 268435456 := by omega
      have kD : IntKind.i64.wrap D = D := IntWalk.i64_in _ (by omega)
      obtain ⟨D1, hD1⟩ : ∃ D1, nth a i - c = D1 := ⟨_, rfl⟩
      have kD1 : IntKind.i64.wrap D1 = D1 := IntWalk.i64_in _ (by omega)
      rw [hD1] at hD
      obtain ⟨D2, hD2⟩ : ∃ D2, D + 268435456 = D2 := ⟨_, rfl⟩
      have kD2 : IntKind.i64.wrap D2 = D2 := IntWalk.i64_in _ (by omega)
      rw [hD2] at HN
      have w3 : IntKind.i64.wrap ((i : Int) + 1) = (i : Int) + 1 := IntWalk.i64_in _ (by omega)
      have x0 : (0 : Int) ≤ (i : Int) := by omega
      have x1 : (i : Int) < (m : Int) := by omega
      have HiM := Lib.hid h1
      obtain ⟨b1, o1, rfl, hb1, hcell1⟩ := HX1.out (by intro h; have := HE.out.1; rw [h] at this; simp at this; omega)
      have k1 := hcell1 i (by rw [HE.out.1]; exact h1)
      clear hcell1
      by_cases hlt : D < 0
      · have hD2b : 0 ≤ D2 ∧ D2 < 268435456 := by omega
        have lw : (Lit.int .i64 D2).wf = true := lit_b (by omega)
        rw [if_pos hlt, if_pos hlt] at HN
        by_cases h2 : i < q
        · obtain ⟨b2, o2, rfl, hb2, hcell2⟩ := HX2.out (by intro h; have := HE.out.2; rw [h] at this; simp at this; omega)
          have k2 := hcell2 i (by rw [HE.out.2]; exact h2)
          have x2 : (i : Int) < (q : Int) := by omega
          clear hcell2 zb na nb
          generalize nth a i = A at *
          generalize nth b i = B at *
          clear hcc
          go_wp2_with (first | (at_builtin; refine push_int rfl _ _ rfl (lay w []) _ (D2) 3 _ _ _ ?_ (ow_on (A := [_]) HO.out) ?_ rfl rfl hlen lw ?_; exact lay_below (A := [_, _]); exact lay_get w _ 0 _ rfl; intro v' d' hv'))
          go_roundw
          case rel => exact ⟨i + 1, 1, out ++ [D2], d', by have := HiM.out; omega, by go_num, rfl, rfl, hv', HN.out⟩
          case measure => have := HiM.out; simp [intOf]; omega
        · have x2 : ¬ (i : Int) < (q : Int) := by omega
          have hB := zb h2
          obtain rfl : D1 = D := by omega
          clear zb na nb hB hD
          generalize nth a i = A at *
          clear hcc
          go_wp2_with (first | (at_builtin; refine push_int rfl _ _ rfl (lay w []) _ (D2) 3 _ _ _ ?_ (ow_on (A := [_]) HO.out) ?_ rfl rfl hlen lw ?_; exact lay_below (A := [_, _]); exact lay_get w _ 0 _ rfl; intro v' d' hv'))
          go_roundw
          case rel => exact ⟨i + 1, 1, out ++ [D2], d', by have := HiM.out; omega, by go_num, rfl, rfl, hv', HN.out⟩
          case measure => have := HiM.out; simp [intOf]; omega
      · have lw : (Lit.int .i64 D).wf = true := lit_b (by omega)
        rw [if_neg hlt, if_neg hlt] at HN
        by_cases h2 : i < q
        · obtain ⟨b2, o2, rfl, hb2, hcell2⟩ := HX2.out (by intro h; have := HE.out.2; rw [h] at this; simp at this; omega)
          have k2 := hcell2 i (by rw [HE.out.2]; exact h2)
          have x2 : (i : Int) < (q : Int) := by omega
          clear hcell2 zb na nb
          generalize nth a i = A at *
          generalize nth b i = B at *
          clear hcc
          go_wp2_with (first | (at_builtin; refine push_int rfl _ _ rfl (lay w []) _ (D) 3 _ _ _ ?_ (ow_on (A := [_]) HO.out) ?_ rfl rfl hlen lw ?_; exact lay_below (A := [_, _]); exact lay_get w _ 0 _ rfl; intro v' d' hv'))
          go_roundw
          case rel => exact ⟨i + 1, 0, out ++ [D], d', by have := HiM.out; omega, by go_num, rfl, rfl, hv', HN.out⟩
          case measure => have := HiM.out; simp [intOf]; omega
        · have x2 : ¬ (i : Int) < (q : Int) := by omega
          have hB := zb h2
          obtain rfl : D1 = D := by omega
          clear zb na nb hB hD
          generalize nth a i = A at *
          clear hcc
          go_wp2_with (first | (at_builtin; refine push_int rfl _ _ rfl (lay w []) _ (D1) 3 _ _ _ ?_ (ow_on (A := [_]) HO.out) ?_ rfl rfl hlen lw ?_; exact lay_below (A := [_, _]); exact lay_get w _ 0 _ rfl; intro v' d' hv'))
          go_roundw
          case rel => exact ⟨i + 1, 0, out ++ [D1], d', by have := HiM.out; omega, by go_num, rfl, rfl, hv', HN.out⟩
          case measure => have := HiM.out; simp [intOf]; omega
    · obtain rfl : i = m := by omega
      have HD := Lib.hid (HI.out.done HE.out.1 (by rw [HE.out.2]; exact hlen0) HV.out)
      have HTr := Lib.hid (trim_ok out.length out rfl HI.out.dg)
      have HT := Lib.hid (fun v W base (q : Ow W base v out) => dg_Trim v out W base q (by rw [HI.out.len]; exact la))
      clear hcc
      go_wp2_with fail
      refine (HT.out _ _ _ HO.out).mono ?_
      rintro e w' ⟨v', d', rfl, rfl, hv'⟩
      rw [lay_bw] at hv' ⊢
      obtain ⟨d3, e3⟩ : ∃ x, lay w [.inr d', .inr dd] = lay w [.inr x] := ⟨_, bw_bw _ _ _⟩
      rw [e3] at hv' ⊢
      clear e3
      have HV2 := Lib.hid hv'
      clear hv'
      go_wp2_with fail
      go_ret
      exact ⟨trimD out, _, d3, ⟨HTr.out.1, by rw [HTr.out.2]; exact HD.out, by have h := trim_len out; have h2 := HI.out.len; have h3 := HE.out.1; omega⟩, rfl, rfl, HV2.out.le (lay_below (w := w) (A := [.inr dd]) (B := [])).size⟩
end Go.Proofs.YtnnmfdeeicpdlaaGreat
/- The reference's digits: Times. -/
namespace Go.Proofs.YtnnmfdeeicpdlaaGreat
open Go.RowKit

theorem info_int0 : (Tryz.prog.info? 3).map (fun i => (i.zero.map (fun z => z.cells), i.size, i.bytes)) = some (some #[.int .i64 0], 1, 8) := by kernel_rfl
theorem make_int {m : Nat} (h2 : m ≤ 10000000) (W : World) :
    (Instr.makeSlice 112 (.int .i64 (m : Int)) (.int .i64 (m : Int))).run Tryz.prog W = .ok (.slice (some ⟨W.heap.size, 0, none⟩) m m) (W.alloc (.cells (madeCells #[.int .i64 0] m) 3)) := by
  have hinf := info_int0
  cases hq : Tryz.prog.info? 3 with
  | none => rw [hq] at hinf; cases hinf
  | some i =>
    rw [hq] at hinf
    simp only [Option.map_some, Option.some.injEq, Prod.mk.injEq] at hinf
    obtain ⟨hz, hs, hb⟩ := hinf
    cases hzz : i.zero with
    | none => rw [hzz] at hz; cases hz
    | some z =>
      rw [hzz] at hz
      simp only [Option.map_some, Option.some.injEq] at hz
      have hr := run_make (P := Tryz.prog) W 112 3 i z Tryz.underlying112 hq hzz .i64 .i64 m m (by omega) (by omega) (by rw [hb]; omega) (by omega)
      simp only [Int.toNat_natCast] at hr
      rw [hr, hs, hz, Nat.mul_one]
theorem ow_made {w : World} {L : List (Obj ⊕ Ext)} {m : Nat} (h : m ≤ 10000000) : Ow (lay w (.inl (.cells (madeCells #[.int .i64 0] m) 3 (0, 0)) :: L)) (lay w L).heap.size (.slice (some ⟨posn w (shp L), 0, none⟩) m m) (List.replicate m 0) := by
  have hM : maxLen = 9223372036854775807 := by decide
  rw [← lay_size w L]
  have h1 := World.ownsRow_lit (e := 3) (size := 1) (base := (lay w L).heap.size) (lay w L) (madeCells #[.int .i64 0] m) m (Nat.le_refl _) (by omega) (by rw [size_madeCells, Nat.mul_one])
  rw [toList_madeCells_one] at h1
  refine ⟨by rw [List.length_replicate, List.map_replicate]; exact h1, fun i hi => ?_⟩
  rw [List.length_replicate] at hi
  rw [show nth (List.replicate m 0) i = 0 from nth_repl m i]
  decide
theorem ow_store1 {w : World} {d : Ext} {g n c base : Nat} {L : List Int} (j : Nat) {x : Int} (h : Ow (lay w [.inr d]) base (.slice (some ⟨g, 0, none⟩) n c) L) (hg : w.heap.size ≤ g) (hx : (Lit.int .i64 x).wf = true) :
    ∃ d', (lay w [.inr d]).setCell ⟨g, j, none⟩ (.int .i64 x) = lay w [.inr d'] ∧ Ow (lay w [.inr d']) base (.slice (some ⟨g, 0, none⟩) n c) (L.set j x) := by
  obtain ⟨d2, e2⟩ := bw_store (w := w) (d := d) (g := g) (i := j) (v := .int .i64 x) hg
  have e3 : (lay w [.inr d]).setCell ⟨g, j, none⟩ (.int .i64 x) = lay w [.inr d2] := e2
  have h2 := ow_store h j x hx
  rw [e3] at h2
  exact ⟨d2, e3, h2⟩
set_option maxHeartbeats 4000000 in
set_option maxRecDepth 100000 in
theorem dg_Times (va vb : Value) (a b : List Int) (w : World) (ha : Sl w va a) (hb : Sl w vb b) (ca : Dg a) (cb : Dg b) (la : a.length ≤ 400000) (lb : b.length ≤ 400000) :
    Calls Tryz.prog 336 #[va, vb] w (RwD w fun l => Can l ∧ valD l = valD a * valD b ∧ l.length ≤ a.length + b.length) := by
  obtain ⟨a1, c1, rfl, hc1, hw1, hx1⟩ := ha
  obtain ⟨a2, c2, rfl, hc2, hw2, hx2⟩ := hb
  have HX1 := Lib.hid hx1
  have HX2 := Lib.hid hx2
  have HCA := Lib.hid (And.intro ca cb)
  obtain ⟨m, hm⟩ : ∃ m, a.length = m := ⟨_, rfl⟩
  obtain ⟨q, hq⟩ : ∃ q, b.length = q := ⟨_, rfl⟩
  have HE := Lib.hid (And.intro hm hq)
  obtain ⟨n, hn⟩ : ∃ n, m + q = n := ⟨_, rfl⟩
  have HST := Lib.hid (TmO.start a b)
  rw [hm, hq, hn] at HST
  have HT := Lib.hid (fun v l W base (h : Ow W base v l) (hl : l.length ≤ 1000000) => dg_Trim v l W base h hl)
  rw [hm] at la ⊢
  rw [hq] at lb ⊢
  rw [hn]
  have hnI : (m : Int) + (q : Int) = (n : Int) := by omega
  have kn : IntKind.i64.wrap (n : Int) = (n : Int) := IntWalk.i64_in _ (by omega)
  have hmk := make_int (m := n) (by omega)
  have HOM : Hid (Ow (lay w [.inl (.cells (madeCells #[.int .i64 0] n) 3 (0, 0))]) (lay w []).heap.size (.slice (some ⟨posn w [], 0, none⟩) n n) (List.replicate n 0)) := Lib.hid (ow_made (L := []) (by omega))
  have hn2 : n ≤ 800000 := by omega
  have HN := Lib.hid hn
  clear hx1 hx2 hw1 hw2 ca cb hm hq
  have hg : w.heap.size ≤ posn w [] := Nat.le_refl _
  refine lay_start ?_
  go_enter Tryz.func336, Tryz.ntmps336
  go_wp2_with fail
  obtain ⟨d0, e0⟩ : ∃ x, lay w [.inl (.cells (madeCells #[.int .i64 0] n) 3 (0, 0))] = lay w [.inr x] := by
    obtain ⟨y, hy⟩ := lay_ex w [.inl (.cells (madeCells #[.int .i64 0] n) 3 (0, 0))]
    exact ⟨y, hy⟩
  rw [e0] at HOM ⊢
  clear e0 hmk kn hnI hn
  go_loopw [6] (fun v6 wr => ∃ (i : Nat) (out : List Int) (dd : Ext), i ≤ m ∧ v6 = .int .i64 (i : Int) ∧ wr = lay w [.inr dd] ∧ Ow (lay w [.inr dd]) (lay w []).heap.size (.slice (some ⟨posn w [], 0, none⟩) n n) out ∧ TmO a b i out) (fun v6 _ => m - (intOf v6).toNat)
  case atStart => exact ⟨0, _, d0, Nat.zero_le _, rfl, rfl, HOM.out, HST.out⟩
  case round =>
    obtain ⟨i, out, dd, hi, rfl, rfl, hO, hI⟩ := hrel
    have HO := Lib.hid (And.intro hO hI)
    clear hO hI
    by_cases h1 : i < m
    · have x1 : (i : Int) < (m : Int) := by omega
      have x0 : (0 : Int) ≤ (i : Int) := by omega
      have w3 : IntKind.i64.wrap ((i : Int) + 1) = (i : Int) + 1 := IntWalk.i64_in _ (by omega)
      obtain ⟨b1, o1, rfl, hb1, hcell1⟩ := HX1.out (by intro h; have := HE.out.1; rw [h] at this; simp at this; omega)
      have k1 := hcell1 i (by rw [HE.out.1]; exact h1)
      have na := HCA.out.1.nth i
      rw [dB_eq] at na
      clear hcell1
      obtain ⟨A, hA⟩ : ∃ A, nth a i = A := ⟨_, rfl⟩
      rw [hA] at k1 na
      have HAA := Lib.hid hA
      clear hA
      go_wp2_with fail
      go_loopw [7, 8] (fun v7 v8 wr => ∃ (k : Nat) (c : Int) (out : List Int) (d2 : Ext), k ≤ q ∧ v8 = .int .i64 (k : Int) ∧ v7 = .int .i64 c ∧ wr = lay w [.inr d2] ∧ Ow (lay w [.inr d2]) (lay w []).heap.size (.slice (some ⟨posn w [], 0, none⟩) n n) out ∧ TmI a b i k out c) (fun _ v8 _ => q - (intOf v8).toNat)
      case atStart => exact ⟨0, 0, out, dd, Nat.zero_le _, rfl, rfl, rfl, HO.out.1, HO.out.2.row⟩
      case round =>
        obtain ⟨k, c, out2, d2, hk, rfl, rfl, rfl, hO2, hI2⟩ := hrel
        have HO2 := Lib.hid (And.intro hO2 hI2)
        have hc0 := hI2.c0
        have hcb := hI2.c1
        rw [dB_eq] at hcb
        have HL2 : Hid (out2.length = n) := Lib.hid (by rw [hI2.len, HE.out.1, HE.out.2]; exact HN.out)
        clear hO2 hI2
        by_cases h2 : k < q
        · obtain ⟨b2, o2, rfl, hb2, hcell2⟩ := HX2.out (by intro h; have := HE.out.2; rw [h] at this; simp at this; omega)
          have k2 := hcell2 k (by rw [HE.out.2]; exact h2)
          have nb := HCA.out.2.nth k
          have no := HO2.out.2.dg.nth (i + k)
          rw [dB_eq] at nb no
          clear hcell2
          obtain ⟨B, hB⟩ : ∃ B, nth b k = B := ⟨_, rfl⟩
          obtain ⟨O, hOo⟩ : ∃ O, nth out2 (i + k) = O := ⟨_, rfl⟩
          obtain ⟨D, hD⟩ : ∃ D, O + A * B + c = D := ⟨_, rfl⟩
          have hst := HO2.out.2.step HCA.out.1 HCA.out.2 (d := D) (by rw [HE.out.1]; exact h1) (by rw [HE.out.2]; exact h2) (by rw [hOo, HAA.out, hB, hD])
          rw [dB_eq] at hst
          obtain ⟨hD0, hD1, hst⟩ := hst
          have HST2 := Lib.hid hst
          clear hst
          obtain ⟨j, hj⟩ : ∃ j, i + k = j := ⟨_, rfl⟩
          have hj2 : j < n := by have := HN.out; omega
          have hjI : (i : Int) + (k : Int) = (j : Int) := by omega
          have kj : IntKind.i64.wrap (j : Int) = (j : Int) := IntWalk.i64_in _ (by omega)
          have xj0 : (0 : Int) ≤ (j : Int) := by omega
          have xj1 : (j : Int) < (n : Int) := by omega
          rw [hB] at k2 nb
          rw [hOo] at no
          rw [hj] at HST2 hOo
          have co : ∀ d', (lay w [.inr d', .inr d2]).cell? ⟨posn w [], j, none⟩ = some (.int .i64 O) := fun d' => by
            have h := (ow_on (A := [.inr d']) HO2.out.1).cell (i := j) (by rw [HL2.out]; exact hj2)
            rw [hOo] at h
            exact h
          obtain ⟨P, hP⟩ : ∃ P, A * B = P := ⟨_, rfl⟩
          have hPb : 0 ≤ P ∧ P ≤ 268435456 * 268435456 := by
            rw [← hP]
            exact ⟨Int.mul_nonneg na.1 nb.1, Int.mul_le_mul (by omega) (by omega) nb.1 (by decide)⟩
          rw [hP] at hD
          obtain ⟨S, hS⟩ : ∃ S, O + P = S := ⟨_, rfl⟩
          rw [hS] at hD
          have kP : IntKind.i64.wrap P = P := IntWalk.i64_in _ (by omega)
          have kS : IntKind.i64.wrap S = S := IntWalk.i64_in _ (by omega)
          have kD : IntKind.i64.wrap D = D := IntWalk.i64_in _ (by omega)
          have x2 : (k : Int) < (q : Int) := by omega
          have x20 : (0 : Int) ≤ (k : Int) := by omega
          have w4 : IntKind.i64.wrap ((k : Int) + 1) = (k : Int) + 1 := IntWalk.i64_in _ (by omega)
          have e1 : D.tmod 268435456 = D % 268435456 := Int.tmod_eq_emod_of_nonneg hD0
          have e2 : D.tdiv 268435456 = D / 268435456 := Int.tdiv_eq_ediv_of_nonneg hD0
          obtain ⟨R, hR⟩ : ∃ R, D % 268435456 = R := ⟨_, rfl⟩
          obtain ⟨K, hK2⟩ : ∃ K, D / 268435456 = K := ⟨_, rfl⟩
          rw [hR] at e1 HST2
          rw [hK2] at e2 HST2
          have kR : IntKind.i64.wrap R = R := IntWalk.i64_in _ (by omega)
          have kK : IntKind.i64.wrap K = K := IntWalk.i64_in _ (by omega)
          have lw : (Lit.int .i64 R).wf = true := lit_b (by omega)
          have HK2 := Lib.hid h2
          clear hOo hB hj hR hK2 nb no hPb hD0 hD1 hc0 hcb h2
          go_wp2_with fail
          refine region_bw (by kernel_rfl) (by kernel_rfl) ?_
          repeat (go_big_quiet_step ((first | fail)))
          refine wpQuiet_nil ?_
          rintro w' ⟨d, rfl⟩
          rw [lay_bw]
          obtain ⟨d3, e3⟩ : ∃ x, lay w [.inr d, .inr d2] = lay w [.inr x] := ⟨_, bw_bw _ _ _⟩
          have HO3 : Hid (Ow (lay w [.inr d, .inr d2]) (lay w []).heap.size (.slice (some ⟨posn w [], 0, none⟩) n n) out2) := Lib.hid (ow_on (A := [.inr d]) HO2.out.1)
          rw [e3] at HO3 ⊢
          clear e3 co
          have fz := HO3.out.froz j
          have co := HO3.out.cell (i := j) (by rw [HL2.out]; exact hj2)
          obtain ⟨d4, e4, hO4⟩ := ow_store1 j HO3.out hg lw
          have HO4 := Lib.hid hO4
          clear hO4
          go_wp2_with fail
          go_roundw
          case rel => exact ⟨k + 1, K, out2.set j R, d4, HK2.out, by go_num, rfl, rfl, HO4.out, HST2.out⟩
          case measure => have := HK2.out; simp [intOf]; omega
        · obtain rfl : k = q := by omega
          have HT2 := Lib.hid (HO2.out.2.done (by rw [HE.out.1]; exact h1) HE.out.2.symm)
          rw [HE.out.2] at HT2
          obtain ⟨j, hj⟩ : ∃ j, i + k = j := ⟨_, rfl⟩
          have hj2 : j < n := by have := HN.out; omega
          have hjI : (i : Int) + (k : Int) = (j : Int) := by omega
          have kj : IntKind.i64.wrap (j : Int) = (j : Int) := IntWalk.i64_in _ (by omega)
          have xj0 : (0 : Int) ≤ (j : Int) := by omega
          have xj1 : (j : Int) < (n : Int) := by omega
          rw [hj] at HT2
          have lw : (Lit.int .i64 c).wf = true := lit_b (by omega)
          have fz := HO2.out.1.froz j
          have co := HO2.out.1.cell (i := j) (by rw [HL2.out]; exact hj2)
          obtain ⟨d4, e4, hO4⟩ := ow_store1 j HO2.out.1 hg lw
          have HO4 := Lib.hid hO4
          have HH1 := Lib.hid h1
          clear hO4 hj hc0 hcb
          go_wp2_with fail
          go_roundw
          case rel => exact ⟨i + 1, out2.set j c, d4, HH1.out, by go_num, rfl, HO4.out, HT2.out⟩
          case measure => have := HH1.out; simp [intOf]; omega
    · obtain rfl : i = m := by omega
      have HD := Lib.hid (HO.out.2.done HE.out.1.symm)
      have hl : out.length = n := by rw [HO.out.2.len, HE.out.1, HE.out.2]; exact HN.out
      have HTr := Lib.hid (trim_ok out.length out rfl HO.out.2.dg)
      have HLn := Lib.hid (trim_len out)
      have HL := Lib.hid hl
      clear hl
      go_wp2_with fail
      refine (HT.out _ _ _ _ HO.out.1 (by rw [HL.out]; omega)).mono ?_
      rintro e w' ⟨v', d', rfl, rfl, hv'⟩
      rw [lay_bw] at hv' ⊢
      obtain ⟨d3, e3⟩ : ∃ x, lay w [.inr d', .inr dd] = lay w [.inr x] := ⟨_, bw_bw _ _ _⟩
      rw [e3] at hv' ⊢
      clear e3
      have HV2 := Lib.hid hv'
      clear hv'
      go_wp2_with fail
      go_ret
      exact ⟨trimD out, _, d3, ⟨HTr.out.1, by rw [HTr.out.2]; exact HD.out.2, by have := HLn.out; rw [HL.out] at this; exact this⟩, rfl, rfl, HV2.out.le (lay_below (w := w) (A := [.inr dd]) (B := [])).size⟩
end Go.Proofs.YtnnmfdeeicpdlaaGreat

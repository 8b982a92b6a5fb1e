/- Contracts and plain laws, several texts in one: SnP -/
import Derived.Test.YtejmgdpgngjiiaaGreatProg
import Derived.WalkKit
import Derived.WalkSpells
import Derived.WalkLawsBesides
import Derived.Lib.Hide
import Derived.BigQuiet
import Derived.Test.YtejmgdpgngjiiaaGreatBAA
import Derived.Test.YtejmgdpgngjiiaaGreatBAB
import Derived.Test.YtejmgdpgngjiiaaGreatBAS
import Derived.Test.YtejmgdpgngjiiaaGreatBAW
/- The averages of sights that are wrong by so much, and of one sight: the plain laws. No walk. -/
namespace Go.Proofs.YtejmgdpgngjiiaaGreat
open Go.RowKit

/-- No element is far from a number: none is an outlier. -/
theorem outI_near {l : List Int} {c S : Int} (h : ∀ x ∈ l, c - S ≤ x ∧ x ≤ c + S) (hS : 2 * S ≤ 100) (f : Int) : outI l f = [] := by
  by_cases hl : l = []
  · subst hl; rfl
  have hm := h _ (medI_mem hl)
  have hfar : ∀ x ∈ farI l, x ≤ 100 := by
    intro x hx
    obtain ⟨y, hy, rfl⟩ := List.mem_map.1 hx
    have := h y hy
    omega
  have hz : outN l f = [] := by
    unfold outN
    refine List.filter_eq_nil_iff.2 fun i hi => ?_
    have hi2 : i < (farI l).length := by rw [farI_len]; exact List.mem_range.1 hi
    have h1 := hfar _ (List.getElem_mem hi2)
    rw [nth_lt hi2]
    have : 100 ≤ limI l f := by unfold limI; omega
    simp; omega
  unfold outI; rw [hz]; rfl
/-- The list of AverageSound. -/
def sndE (es : List Int) (i : Nat) : Int := nth es (i % es.length)
def sndY (s : SgV) (xs es : List Int) (g : Int) (i : Nat) : SgV :=
  { s with lo := 1000000 + 1000 * nth xs i - 300, hi := 1000000 + 1000 * nth xs i + 300, hs := s.hs + g * nth xs i + sndE es i, wi := mx (sndE es i) (-(sndE es i)) }
def sndL (s : SgV) (xs es : List Int) (g : Int) (k : Nat) : List SgV := (List.range k).map (sndY s xs es g)
def sprS (es : List Int) : Nat → Int
  | 0 => 0
  | k + 1 => mx (sprS es k) (mx (sndE es k) (-(sndE es k)))
variable {s : SgV} {xs es : List Int} {g f : Int}
theorem sndL_len (k : Nat) : (sndL s xs es g k).length = k := by unfold sndL; simp
theorem sndL_succ (k : Nat) : sndL s xs es g (k + 1) = sndL s xs es g k ++ [sndY s xs es g k] := by
  unfold sndL
  rw [List.range_succ, List.map_append]; rfl
theorem sndL_get {k i : Nat} (h : i < k) : getS (sndL s xs es g k) i = sndY s xs es g i := by
  unfold getS sndL
  simp [h]
theorem snd_mid (i : Nat) : midI (sndY s xs es g i) = 1000000 + 1000 * nth xs i := by
  unfold midI sndY
  dsimp only
  omega
theorem spr_le : ∀ k i, i < k → sndE es i ≤ sprS es k ∧ -(sndE es i) ≤ sprS es k
  | k + 1, i, h => by
    unfold sprS
    rw [mx_eq, mx_eq]
    by_cases e : i = k
    · subst e; omega
    · have := spr_le k i (by omega)
      omega
structure SndOk (s : SgV) (xs es : List Int) (g f : Int) : Prop where
  x1 : 1 ≤ xs.length
  x2 : xs.length ≤ 16
  g1 : -128 ≤ g
  g2 : g ≤ 127
  f1 : 1 ≤ f
  f2 : f ≤ 100
  xb : ∀ i, i < xs.length → -32768 ≤ nth xs i ∧ nth xs i ≤ 32767
  val : ∀ i, i < xs.length → sgB (sndY s xs es g i) = true
theorem frac_one {g : Int} (h1 : -128 ≤ g) (h2 : g ≤ 127) : fracB g 1 = true := by
  unfold fracB
  simp; omega
theorem snd_gvn (o : SndOk s xs es g f) : gvnE (sndL s xs es g xs.length) g 1 f = 0 := by
  obtain ⟨x1, x2, g1, g2, f1, f2, xb, val⟩ := o
  have hf : fstS (sndL s xs es g xs.length) = sndY s xs es g 0 := by rw [fstS_get, sndL_get (by omega)]
  unfold gvnE
  rw [if_neg, if_neg, if_neg, if_neg, if_neg]
  · intro h
    obtain ⟨a, ha, h2⟩ := List.any_eq_true.1 h
    obtain ⟨i, hi, rfl⟩ := List.mem_map.1 ha
    have b1 := xb i (List.mem_range.1 hi)
    have b2 := xb 0 (by omega)
    unfold farS at h2
    rw [hf, snd_mid, snd_mid] at h2
    simp only [decide_eq_true_eq] at h2
    omega
  · intro h
    obtain ⟨a, ha, h2⟩ := List.any_eq_true.1 h
    obtain ⟨i, hi, rfl⟩ := List.mem_map.1 ha
    rw [hf, show likB (sndY s xs es g i) (sndY s xs es g 0) = true from decide_eq_true ⟨rfl, rfl, rfl, rfl, rfl, rfl, rfl⟩] at h2
    cases h2
  · rintro (h | h)
    · unfold slpB at h
      rw [decide_eq_true (by omega)] at h
      cases h
    · omega
  · rw [sndL_len]; omega
  · rintro (h | h)
    · obtain ⟨a, ha, h2⟩ := List.any_eq_true.1 h
      obtain ⟨i, hi, rfl⟩ := List.mem_map.1 ha
      rw [val i (List.mem_range.1 hi)] at h2
      cases h2
    · rw [frac_one g1 g2] at h; cases h
theorem snd_err (o : SndOk s xs es g f) : sgtE (sndL s xs es g xs.length) g 1 f = 0 ∨ sgtE (sndL s xs es g xs.length) g 1 f = 24 := by
  unfold sgtE
  rw [snd_gvn o, if_neg (by decide)]
  split
  · exact .inl rfl
  · exact .inr rfl
theorem snd_res (o : SndOk s xs es g f) : ∀ x ∈ resS (sndL s xs es g xs.length) g 1, s.hs + g * nth xs 0 - sprS es xs.length ≤ x ∧ x ≤ s.hs + g * nth xs 0 + sprS es xs.length := by
  intro x hx
  obtain ⟨i, hi, rfl⟩ := List.getElem_of_mem hx
  have hi2 := hi
  rw [resS_len, sndL_len] at hi2
  rw [← nth_lt hi]
  unfold resS
  rw [resK_nth _ _ _ _ (by rw [tsS_len, sndL_len]; exact hi2), tsS_nth (by rw [sndL_len]; exact hi2), rdS_nth (by rw [sndL_len]; exact hi2), sndL_get hi2, fstS_get, sndL_get o.x1, snd_mid, snd_mid]
  rw [show 1000000 + 1000 * nth xs i - (1000000 + 1000 * nth xs 0) = 1000 * (nth xs i - nth xs 0) by omega]
  rw [show (sndY s xs es g i).hs = s.hs + g * nth xs i + sndE es i from rfl, res_off]
  have := spr_le (es := es) xs.length i hi2
  omega
theorem snd_acc (o : SndOk s xs es g f) (out : List Int) : ∀ k, k ≤ xs.length → ∃ X E : Int,
    (accS (sndL s xs es g xs.length) out k).re = (accS (sndL s xs es g xs.length) out k).n * s.hs + g * X + E ∧
    (accS (sndL s xs es g xs.length) out k).ti = 1000 * (X - (accS (sndL s xs es g xs.length) out k).n * nth xs 0) ∧
    E ≤ (accS (sndL s xs es g xs.length) out k).wi ∧ -(accS (sndL s xs es g xs.length) out k).wi ≤ E ∧
    0 ≤ (accS (sndL s xs es g xs.length) out k).n ∧
    (1 ≤ (accS (sndL s xs es g xs.length) out k).n → (accS (sndL s xs es g xs.length) out k).be = 300 ∧ (accS (sndL s xs es g xs.length) out k).af = 300) ∧
    (accS (sndL s xs es g xs.length) out k).be ≤ 300 ∧ (accS (sndL s xs es g xs.length) out k).af ≤ 300
  | 0, _ => ⟨0, 0, by simp [accS], by simp [accS], by simp [accS], by simp [accS], by simp [accS], by simp [accS], by simp [accS], by simp [accS]⟩
  | k + 1, hk => by
    obtain ⟨X, E, h1, h2, h3, h4, h5, h6, h7, h8⟩ := snd_acc o out k (by omega)
    unfold accS
    by_cases c : out.contains (k : Int) = true
    · rw [if_pos c]
      exact ⟨X, E, h1, h2, h3, h4, h5, h6, h7, h8⟩
    · rw [if_neg c]
      have hl : k < (sndL s xs es g xs.length).length := by rw [sndL_len]; omega
      have q0 : nth (tsS (sndL s xs es g xs.length)) k = 1000 * (nth xs k - nth xs 0) := by
        rw [tsS_nth hl, sndL_get (by omega), fstS_get, sndL_get o.x1, snd_mid, snd_mid]; omega
      have q1 : midI (getS (sndL s xs es g xs.length) k) - (getS (sndL s xs es g xs.length) k).lo = 300 := by
        rw [sndL_get (by omega), snd_mid]; unfold sndY; dsimp only; omega
      have q2 : (getS (sndL s xs es g xs.length) k).hi - midI (getS (sndL s xs es g xs.length) k) = 300 := by
        rw [sndL_get (by omega), snd_mid]; unfold sndY; dsimp only; omega
      have q3 : (getS (sndL s xs es g xs.length) k).hs = s.hs + g * nth xs k + sndE es k := by rw [sndL_get (by omega)]; rfl
      have q4 : (getS (sndL s xs es g xs.length) k).wi = mx (sndE es k) (-(sndE es k)) := by rw [sndL_get (by omega)]; rfl
      refine ⟨X + nth xs k, E + sndE es k, ?_, ?_, ?_, ?_, ?_, ?_, ?_, ?_⟩ <;> dsimp only
      · rw [q3, h1, Int.add_mul, Int.mul_add]; omega
      · rw [q0, h2, Int.add_mul]; omega
      · rw [q4, mx_eq]; omega
      · rw [q4, mx_eq]; omega
      · omega
      · intro _; rw [q1, q2, mx_eq, mx_eq]; omega
      · rw [q1, mx_eq]; omega
      · rw [q2, mx_eq]; omega
theorem men_hs {l : List SgV} {n d : Int} {a : AccV} (hn : 0 < a.n) (hd : 0 < d) : (menS l n d a).hs = mnHs a.re a.ti a.n (atS a) n d := by
  have := mn_split (readings := a.re) (times := a.ti) (at_ := atS a) (p := n) hn hd
  rw [show (2 : Int) * 1000 = 2000 from rfl] at this
  exact this
theorem snd_law (o : SndOk s xs es g f) (hE : sgtE (sndL s xs es g xs.length) g 1 f = 0) :
    2 * (sgtL (sndL s xs es g xs.length) g 1 f).length ≤ xs.length ∧ (2 * sprS es xs.length < 100 → sgtL (sndL s xs es g xs.length) g 1 f = []) ∧
    (sgtS (sndL s xs es g xs.length) g 1 f).hi - (sgtS (sndL s xs es g xs.length) g 1 f).lo = 600 ∧
    1000 * ((sgtS (sndL s xs es g xs.length) g 1 f).hs - s.hs) - g * ((sgtS (sndL s xs es g xs.length) g 1 f).lo + 300 - 1000000) ≤ 1000 * (sgtS (sndL s xs es g xs.length) g 1 f).wi ∧
    -(1000 * (sgtS (sndL s xs es g xs.length) g 1 f).wi) ≤ 1000 * ((sgtS (sndL s xs es g xs.length) g 1 f).hs - s.hs) - g * ((sgtS (sndL s xs es g xs.length) g 1 f).lo + 300 - 1000000) := by
  have hO := gvn_ok (snd_gvn o)
  have eL : sgtL (sndL s xs es g xs.length) g 1 f = outS (sndL s xs es g xs.length) g 1 f := if_pos hE
  have eS : sgtS (sndL s xs es g xs.length) g 1 f = menS (sndL s xs es g xs.length) g 1 (accS (sndL s xs es g xs.length) (outS (sndL s xs es g xs.length) g 1 f) (sndL s xs es g xs.length).length) := if_pos hE
  have hn := acc_one hO
  rw [eL, eS]
  rw [sndL_len] at hn ⊢
  obtain ⟨X, E, h1, h2, h3, h4, h5, h6, h7, h8⟩ := snd_acc o (outS (sndL s xs es g xs.length) g 1 f) xs.length (by omega)
  have h6 := h6 hn
  have hh : (menS (sndL s xs es g xs.length) g 1 (accS (sndL s xs es g xs.length) (outS (sndL s xs es g xs.length) g 1 f) xs.length)).hs = _ := men_hs (by omega) (by decide)
  have h0 : midI (fstS (sndL s xs es g xs.length)) = 1000000 + 1000 * nth xs 0 := by rw [fstS_get, sndL_get o.x1, snd_mid]
  refine ⟨?_, ?_, ?_, ?_⟩
  · have := outI_half (l := resS (sndL s xs es g xs.length) g 1) (fun e => by
      have h := resS_len (sndL s xs es g xs.length) g 1
      rw [e, sndL_len] at h
      have := o.x1
      simp at h; omega) o.f1
    rw [resS_len, sndL_len] at this
    exact this
  · intro h
    exact outI_near (snd_res o) (by omega) f
  · unfold menS; dsimp only; omega
  · have hs := mn_sound (n := (accS (sndL s xs es g xs.length) (outS (sndL s xs es g xs.length) g 1 f) xs.length).n) (Hs := s.hs) (s := g) (X := X) (x0 := nth xs 0) (at_ := atS (accS (sndL s xs es g xs.length) (outS (sndL s xs es g xs.length) g 1 f) xs.length)) (by omega) h3 h4
    rw [← h1, ← h2, ← hh] at hs
    have hw : (menS (sndL s xs es g xs.length) g 1 (accS (sndL s xs es g xs.length) (outS (sndL s xs es g xs.length) g 1 f) xs.length)).wi = mnWi (accS (sndL s xs es g xs.length) (outS (sndL s xs es g xs.length) g 1 f) xs.length).wi (accS (sndL s xs es g xs.length) (outS (sndL s xs es g xs.length) g 1 f) xs.length).n := rfl
    have hlo : (menS (sndL s xs es g xs.length) g 1 (accS (sndL s xs es g xs.length) (outS (sndL s xs es g xs.length) g 1 f) xs.length)).lo + 300 - 1000000 = 1000 * nth xs 0 + atS (accS (sndL s xs es g xs.length) (outS (sndL s xs es g xs.length) g 1 f) xs.length) := by
      unfold menS; dsimp only; omega
    rw [hw, hlo]
    exact hs
end Go.Proofs.YtejmgdpgngjiiaaGreat

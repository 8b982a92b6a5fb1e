/- Contracts and plain laws, several texts in one: DgP; DgQ; DgR; DgN; DgO; MixB -/
import Derived.Test.YtnnmfdeeicpdlaaGreatProg
import Derived.WalkKit
import Derived.WalkSpells
import Derived.WalkLawsBesides
import Derived.Lib.Hide
import Derived.BigQuiet
import Derived.Test.YtnnmfdeeicpdlaaGreatHAC
import Derived.Test.YtnnmfdeeicpdlaaGreatHAD
import Derived.Test.YtnnmfdeeicpdlaaGreatHAE
import Derived.Test.YtnnmfdeeicpdlaaGreatHAS
import Derived.Test.YtnnmfdeeicpdlaaGreatHAX
/- Lists of digits of 28 bits, the least one first: the plain law. No function of the program. -/
namespace Go.Proofs.YtnnmfdeeicpdlaaGreat

def dB : Int := 268435456
theorem dB_pos : 0 < dB := by decide
def valD : List Int → Int
  | [] => 0
  | d :: l => d + dB * valD l
def Dg (l : List Int) : Prop := ∀ d ∈ l, 0 ≤ d ∧ d < dB
def Can (l : List Int) : Prop := Dg l ∧ l.getLast? ≠ some 0
theorem Dg.nil : Dg [] := fun _ h => absurd h List.not_mem_nil
theorem Can.nil : Can [] := ⟨Dg.nil, by simp⟩
theorem Dg.app {a b : List Int} (ha : Dg a) (hb : Dg b) : Dg (a ++ b) := fun d hd => (List.mem_append.1 hd).elim (ha d) (hb d)
theorem Dg.one {d : Int} (h : 0 ≤ d ∧ d < dB) : Dg [d] := fun x hx => by rw [List.mem_singleton.1 hx]; exact h
theorem Dg.take {l : List Int} (h : Dg l) (k : Nat) : Dg (l.take k) := fun d hd => h d (List.mem_of_mem_take hd)
theorem Dg.drop {l : List Int} (h : Dg l) (k : Nat) : Dg (l.drop k) := fun d hd => h d (List.mem_of_mem_drop hd)
theorem Dg.tail {d : Int} {l : List Int} (h : Dg (d :: l)) : Dg l := fun x hx => h x (List.mem_cons_of_mem _ hx)
theorem Dg.nth {l : List Int} (h : Dg l) (i : Nat) : 0 ≤ nth l i ∧ nth l i < dB := by
  by_cases hi : i < l.length
  · have : Go.Proofs.YtnnmfdeeicpdlaaGreat.nth l i = l[i] := by unfold Go.Proofs.YtnnmfdeeicpdlaaGreat.nth; rw [List.getD_eq_getElem?_getD, List.getElem?_eq_getElem hi]; rfl
    rw [this]; exact h _ (List.getElem_mem hi)
  · have : Go.Proofs.YtnnmfdeeicpdlaaGreat.nth l i = 0 := by unfold Go.Proofs.YtnnmfdeeicpdlaaGreat.nth; rw [List.getD_eq_getElem?_getD, List.getElem?_eq_none (by omega)]; rfl
    rw [this]; exact ⟨Int.le_refl _, dB_pos⟩
theorem valD_app : ∀ (a b : List Int), valD (a ++ b) = valD a + dB ^ a.length * valD b
  | [], b => by simp [valD]
  | d :: a, b => by
    rw [List.cons_append, valD, valD, valD_app a b, List.length_cons, Int.pow_succ, Int.mul_add, Int.add_assoc, Int.mul_comm (dB ^ a.length) dB, Int.mul_assoc]
theorem valD_one (d : Int) : valD [d] = d := by simp [valD]
theorem valD_snoc (l : List Int) (d : Int) : valD (l ++ [d]) = valD l + dB ^ l.length * d := by rw [valD_app, valD_one]
theorem dB_pow_pos (k : Nat) : 0 < dB ^ k := Int.pow_pos dB_pos
theorem valD_bd : ∀ {l : List Int}, Dg l → 0 ≤ valD l ∧ valD l < dB ^ l.length
  | [], _ => by simp [valD]
  | d :: l, h => by
    obtain ⟨h1, h2⟩ := valD_bd h.tail
    obtain ⟨h3, h4⟩ := h d (List.mem_cons_self ..)
    rw [valD, List.length_cons, Int.pow_succ, Int.mul_comm]
    have hp := dB_pos
    have k1 : 0 ≤ valD l * dB := Int.mul_nonneg h1 (Int.le_of_lt hp)
    have k2 : (valD l + 1) * dB ≤ dB ^ l.length * dB := Int.mul_le_mul_of_nonneg_right h2 (Int.le_of_lt hp)
    rw [Int.add_mul, Int.one_mul] at k2
    omega
theorem take_snoc {l : List Int} {i : Nat} (h : i < l.length) : l.take (i + 1) = l.take i ++ [nth l i] := by
  have : nth l i = l[i] := by unfold nth; rw [List.getD_eq_getElem?_getD, List.getElem?_eq_getElem h]; rfl
  rw [List.take_add_one, List.getElem?_eq_getElem h, this]; rfl
theorem valD_take {l : List Int} (i : Nat) : valD (l.take (i + 1)) = valD (l.take i) + dB ^ i * nth l i := by
  by_cases h : i < l.length
  · rw [take_snoc h, valD_snoc, List.length_take, Nat.min_eq_left (by omega)]
  · have : nth l i = 0 := by unfold nth; rw [List.getD_eq_getElem?_getD, List.getElem?_eq_none (by omega)]; rfl
    rw [this, Int.mul_zero, Int.add_zero, List.take_of_length_le (by omega), List.take_of_length_le (by omega)]
theorem Can.last {l : List Int} (h : Can l) (hl : l ≠ []) : 0 < nth l (l.length - 1) := by
  have hp := List.length_pos_iff.2 hl
  have h1 : nth l (l.length - 1) = l.getLast hl := by
    rw [List.getLast_eq_getElem]; unfold nth
    rw [List.getD_eq_getElem?_getD, List.getElem?_eq_getElem (by omega)]; rfl
  have h2 := h.2
  rw [List.getLast?_eq_some_getLast hl] at h2
  have h3 := (h.1.nth (l.length - 1)).1
  rw [h1] at h3 ⊢
  have : l.getLast hl ≠ 0 := fun e => h2 (by rw [e])
  omega
theorem Can.low {l : List Int} (h : Can l) (hl : l ≠ []) : dB ^ (l.length - 1) ≤ valD l := by
  have hp := List.length_pos_iff.2 hl
  have h1 := h.last hl
  have h2 : valD l = valD (l.take (l.length - 1)) + dB ^ (l.length - 1) * nth l (l.length - 1) := by
    have := valD_take (l := l) (l.length - 1)
    rw [Nat.sub_add_cancel hp, List.take_length] at this
    exact this
  have h3 := (valD_bd (h.1.take (l.length - 1))).1
  have h4 : dB ^ (l.length - 1) * 1 ≤ dB ^ (l.length - 1) * nth l (l.length - 1) := Int.mul_le_mul_of_nonneg_left h1 (Int.le_of_lt (dB_pow_pos _))
  rw [Int.mul_one] at h4
  omega
theorem Can.zero {l : List Int} (h : Can l) (hv : valD l = 0) : l = [] := by
  by_cases hl : l = []
  · exact hl
  · have := h.low hl
    have := dB_pow_pos (l.length - 1)
    omega
theorem dB_pow_le {a b : Nat} (h : a ≤ b) : dB ^ a ≤ dB ^ b := by
  obtain ⟨c, rfl⟩ := Nat.le.dest h
  rw [Int.pow_add]
  have := Int.mul_le_mul_of_nonneg_left (show 1 ≤ dB ^ c from dB_pow_pos c) (Int.le_of_lt (dB_pow_pos a))
  rw [Int.mul_one] at this
  exact this
theorem Can.short {a b : List Int} (ha : Dg a) (hb : Can b) (h : a.length < b.length) : valD a < valD b := by
  have h1 := (valD_bd ha).2
  have h2 := hb.low (by rintro rfl; simp at h)
  have h3 := dB_pow_le (a := a.length) (b := b.length - 1) (by omega)
  omega
theorem Can.snoc {l : List Int} {d : Int} (h : Dg l) (hd : 0 < d) (hd2 : d < dB) : Can (l ++ [d]) := by
  refine ⟨h.app (Dg.one ⟨by omega, hd2⟩), ?_⟩
  rw [List.getLast?_append]
  simp; omega
def trimD (l : List Int) : List Int := (l.reverse.dropWhile (· == 0)).reverse
theorem trim_snoc (l : List Int) (d : Int) : trimD (l ++ [d]) = if d = 0 then trimD l else l ++ [d] := by
  unfold trimD
  rw [List.reverse_append, List.reverse_singleton, List.singleton_append, List.dropWhile_cons]
  by_cases h : d = 0
  · subst h; simp
  · simp [h]
theorem trim_nil : trimD [] = [] := rfl
theorem trim_ok : ∀ (n : Nat) (l : List Int), l.length = n → Dg l → Can (trimD l) ∧ valD (trimD l) = valD l
  | 0, l, h, _ => by
    obtain rfl := List.eq_nil_of_length_eq_zero h
    exact ⟨Can.nil, rfl⟩
  | n + 1, l, h, hd => by
    have hl : l ≠ [] := by rintro rfl; simp at h
    obtain ⟨l', d, rfl⟩ : ∃ l' d, l = l' ++ [d] := ⟨l.dropLast, l.getLast hl, (List.dropLast_concat_getLast hl).symm⟩
    have hd' : Dg l' := fun x hx => hd x (List.mem_append_left _ hx)
    have hdd := hd d (List.mem_append_right _ (List.mem_singleton.2 rfl))
    rw [List.length_append, List.length_singleton] at h
    obtain ⟨i1, i2⟩ := trim_ok n l' (by omega) hd'
    rw [trim_snoc]
    by_cases h0 : d = 0
    · rw [if_pos h0, valD_snoc, h0, Int.mul_zero, Int.add_zero]; exact ⟨i1, i2⟩
    · rw [if_neg h0]; exact ⟨Can.snoc hd' (by omega) hdd.2, rfl⟩
theorem trim_len (l : List Int) : (trimD l).length ≤ l.length := by
  unfold trimD
  rw [List.length_reverse]
  have := (List.dropWhile_sublist (p := (· == 0)) (l := l.reverse)).length_le
  rw [List.length_reverse] at this; exact this
end Go.Proofs.YtnnmfdeeicpdlaaGreat
/- Digits: order, sum, difference, product, quotient, step by step. The plain law. No function of the program. -/
namespace Go.Proofs.YtnnmfdeeicpdlaaGreat

theorem nth_out {l : List Int} {i : Nat} (h : l.length ≤ i) : nth l i = 0 := by unfold nth; rw [List.getD_eq_getElem?_getD, List.getElem?_eq_none h]; rfl
theorem nth_in {l : List Int} {i : Nat} (h : i < l.length) : nth l i = l[i] := by unfold nth; rw [List.getD_eq_getElem?_getD, List.getElem?_eq_getElem h]; rfl
theorem valD_split {l : List Int} {i : Nat} (h : i < l.length) : valD l = valD (l.take i) + dB ^ i * nth l i + dB ^ (i + 1) * valD (l.drop (i + 1)) := by
  have e : valD l = valD (l.take (i + 1)) + dB ^ (i + 1) * valD (l.drop (i + 1)) := by
    have := valD_app (l.take (i + 1)) (l.drop (i + 1))
    rw [List.take_append_drop, List.length_take, Nat.min_eq_left (by omega)] at this
    exact this
  rw [e, valD_take]
theorem ord_diff {a b : List Int} (ha : Dg a) (hb : Dg b) (hl : a.length = b.length) {i : Nat} (hi : i < a.length) (hd : a.drop (i + 1) = b.drop (i + 1)) (h : nth a i < nth b i) : valD a < valD b := by
  rw [valD_split hi, valD_split (l := b) (i := i) (by omega), hd]
  have h1 := (valD_bd (ha.take i)).2
  have h2 := (valD_bd (hb.take i)).1
  rw [List.length_take, Nat.min_eq_left (by omega)] at h1
  have hp := dB_pow_pos i
  have h3 := Int.mul_le_mul_of_nonneg_left (show nth a i + 1 ≤ nth b i from h) (Int.le_of_lt hp)
  rw [Int.mul_add, Int.mul_one] at h3
  omega
theorem drop_step {a b : List Int} (hl : a.length = b.length) {i : Nat} (hi : i < a.length) (hd : a.drop (i + 1) = b.drop (i + 1)) (h : nth a i = nth b i) : a.drop i = b.drop i := by
  have hi2 : i < b.length := by omega
  rw [List.drop_eq_getElem_cons hi, List.drop_eq_getElem_cons hi2, hd, ← nth_in hi, ← nth_in hi2, h]
def ordI (x y : Int) : Int := if x < y then -1 else if y < x then 1 else 0
structure SumI (a b : List Int) (i : Nat) (out : List Int) (c : Int) : Prop where
  len : out.length = i
  dg : Dg out
  c0 : 0 ≤ c
  c1 : c ≤ 1
  val : valD out + dB ^ i * c = valD (a.take i) + valD (b.take i)
  can : a.length ≤ i → b.length ≤ i → c = 0 → Can out
theorem SumI.start (a b : List Int) : SumI a b 0 [] 0 := ⟨rfl, Dg.nil, Int.le_refl _, by decide, by simp [valD], fun _ _ _ => Can.nil⟩
theorem SumI.step {a b : List Int} {i : Nat} {out : List Int} {c : Int} (ha : Can a) (hb : Can b) (h : SumI a b i out c) (hgo : i < a.length ∨ i < b.length ∨ 0 < c) : SumI a b (i + 1) (out ++ [(c + nth a i + nth b i) % dB]) ((c + nth a i + nth b i) / dB) := by
  obtain ⟨a0, a1⟩ := ha.1.nth i
  obtain ⟨b0, b1⟩ := hb.1.nth i
  have hc0 := h.c0
  have hc1 := h.c1
  have hB : dB = 268435456 := rfl
  obtain ⟨d, hd⟩ : ∃ d, c + nth a i + nth b i = d := ⟨_, rfl⟩
  rw [hd]
  have m0 : 0 ≤ d % dB := Int.emod_nonneg _ (by omega)
  have m1 : d % dB < dB := Int.emod_lt_of_pos _ (by omega)
  have e1 : d = dB * (d / dB) + d % dB := (Int.mul_ediv_add_emod d dB).symm
  refine ⟨by rw [List.length_append, h.len]; rfl, h.dg.app (Dg.one ⟨m0, m1⟩), ?_, ?_, ?_, fun ka kb k0 => ?_⟩
  · rw [hB]; omega
  · have a2 := a1
    have b2 := b1
    rw [hB] at a2 b2 ⊢
    omega
  · rw [valD_snoc, h.len, valD_take, valD_take, Int.pow_succ, Int.mul_assoc]
    have h1 := h.val
    have h2 : dB ^ i * (d % dB) + dB ^ i * (dB * (d / dB)) = dB ^ i * c + dB ^ i * nth a i + dB ^ i * nth b i := by
      rw [← Int.mul_add, ← Int.mul_add, ← Int.mul_add, hd]
      congr 1; omega
    omega
  · have hlt : d < dB := by
      rw [k0, Int.mul_zero, Int.zero_add] at e1
      exact Int.lt_of_le_of_lt (Int.le_of_eq e1) m1
    have hm : d % dB = d := Int.emod_eq_of_lt (by omega) hlt
    rw [hm]
    refine Can.snoc h.dg ?_ hlt
    rcases hgo with hgo | hgo | hgo
    · have hne : a ≠ [] := by rintro rfl; simp at hgo
      have := ha.last hne
      rw [show a.length - 1 = i by omega] at this
      omega
    · have hne : b ≠ [] := by rintro rfl; simp at hgo
      have := hb.last hne
      rw [show b.length - 1 = i by omega] at this
      omega
    · omega
theorem SumI.done {a b : List Int} {i : Nat} {out : List Int} {c : Int} (h : SumI a b i out c) (h1 : a.length ≤ i) (h2 : b.length ≤ i) (h3 : ¬ 0 < c) : Can out ∧ valD out = valD a + valD b := by
  have hc : c = 0 := by have := h.c0; omega
  have hv := h.val
  rw [hc, Int.mul_zero, List.take_of_length_le h1, List.take_of_length_le h2] at hv
  exact ⟨h.can h1 h2 hc, by omega⟩
structure LesI (a b : List Int) (i : Nat) (out : List Int) (c : Int) : Prop where
  len : out.length = i
  dg : Dg out
  c01 : c = 0 ∨ c = 1
  val : valD out + valD (b.take i) = valD (a.take i) + dB ^ i * c
theorem LesI.start (a b : List Int) : LesI a b 0 [] 0 := ⟨rfl, Dg.nil, Or.inl rfl, by simp [valD]⟩
theorem LesI.step {a b : List Int} {i : Nat} {out : List Int} {c d e f : Int} (ha : Dg a) (hb : Dg b) (h : LesI a b i out c) (hd : d = nth a i - c - nth b i) (he : e = if d < 0 then d + dB else d) (hf : f = if d < 0 then 1 else 0) : LesI a b (i + 1) (out ++ [e]) f := by
  obtain ⟨a0, a1⟩ := ha.nth i
  obtain ⟨b0, b1⟩ := hb.nth i
  have hc := h.c01
  have hB : dB = 268435456 := rfl
  have hE : 0 ≤ e ∧ e < dB ∧ e = nth a i - c - nth b i + dB * f ∧ (f = 0 ∨ f = 1) := by
    by_cases h0 : d < 0
    · rw [if_pos h0] at he hf; rw [hf, Int.mul_one]; omega
    · rw [if_neg h0] at he hf; rw [hf, Int.mul_zero]; omega
  refine ⟨by rw [List.length_append, h.len]; rfl, h.dg.app (Dg.one ⟨hE.1, hE.2.1⟩), hE.2.2.2, ?_⟩
  rw [valD_snoc, h.len, valD_take, valD_take, Int.pow_succ, Int.mul_assoc]
  have h1 := h.val
  have h2 : dB ^ i * e + dB ^ i * nth b i = dB ^ i * nth a i + dB ^ i * (dB * f) - dB ^ i * c := by
    rw [hE.2.2.1, ← Int.mul_add, ← Int.mul_add, ← Int.mul_sub]
    congr 1; omega
  omega
theorem LesI.done {a b : List Int} {i : Nat} {out : List Int} {c : Int} (h : LesI a b i out c) (h1 : a.length = i) (h2 : b.length ≤ i) (hv : valD b ≤ valD a) : valD out = valD a - valD b := by
  have hw := h.val
  rw [List.take_of_length_le (l := a) (by omega), List.take_of_length_le (l := b) h2] at hw
  have h3 := (valD_bd h.dg).2
  rw [h.len] at h3
  have h4 := dB_pow_pos i
  rcases h.c01 with hc | hc
  · rw [hc, Int.mul_zero] at hw; omega
  · rw [hc, Int.mul_one] at hw; omega
theorem valD_set : ∀ {l : List Int} {j : Nat}, j < l.length → ∀ v, valD (l.set j v) = valD l + dB ^ j * (v - nth l j)
  | [], j, h, _ => by simp at h
  | d :: l, 0, _, v => by
    rw [List.set_cons_zero, valD, valD]
    show _ = d + dB * valD l + dB ^ 0 * (v - d)
    rw [Int.pow_zero, Int.one_mul]; omega
  | d :: l, j + 1, h, v => by
    rw [List.set_cons_succ, valD, valD, valD_set (by simpa using h) v]
    show _ = d + dB * valD l + dB ^ (j + 1) * (v - nth l j)
    rw [Int.mul_add, ← Int.mul_assoc, Int.pow_succ, Int.mul_comm (dB ^ j) dB]; omega
theorem Dg.set {l : List Int} (h : Dg l) (j : Nat) {v : Int} (hv : 0 ≤ v ∧ v < dB) : Dg (l.set j v) := fun d hd => by
  rcases List.mem_or_eq_of_mem_set hd with hd | rfl
  · exact h d hd
  · exact hv
theorem valD_zero (n : Nat) : valD (List.replicate n 0) = 0 := by
  induction n with
  | zero => rfl
  | succ n ih => rw [List.replicate_succ, valD, ih]; rfl
end Go.Proofs.YtnnmfdeeicpdlaaGreat
/- Digits: product and quotient, step by step. The plain law. No function of the program. -/
namespace Go.Proofs.YtnnmfdeeicpdlaaGreat

structure TmI (a b : List Int) (i k : Nat) (out : List Int) (c : Int) : Prop where
  len : out.length = a.length + b.length
  dg : Dg out
  c0 : 0 ≤ c
  c1 : c < dB
  val : valD out + dB ^ (i + k) * c = valD (a.take i) * valD b + dB ^ i * (nth a i * valD (b.take k))
  zero : ∀ j, i + b.length ≤ j → nth out j = 0
structure TmO (a b : List Int) (i : Nat) (out : List Int) : Prop where
  len : out.length = a.length + b.length
  dg : Dg out
  val : valD out = valD (a.take i) * valD b
  zero : ∀ j, i + b.length ≤ j → nth out j = 0
theorem nth_repl (n j : Nat) : nth (List.replicate n 0) j = 0 := by
  by_cases h : j < n
  · rw [nth_in (by rw [List.length_replicate]; exact h), List.getElem_replicate]
  · exact nth_out (by rw [List.length_replicate]; omega)
theorem TmO.start (a b : List Int) : TmO a b 0 (List.replicate (a.length + b.length) 0) :=
  ⟨List.length_replicate, fun d hd => by rw [List.eq_of_mem_replicate hd]; exact ⟨Int.le_refl _, dB_pos⟩, by rw [valD_zero]; simp [valD], fun j _ => nth_repl _ j⟩
theorem TmO.row {a b : List Int} {i : Nat} {out : List Int} (h : TmO a b i out) : TmI a b i 0 out 0 :=
  ⟨h.len, h.dg, Int.le_refl _, dB_pos, by rw [h.val]; simp [valD], h.zero⟩
theorem TmI.step {a b : List Int} {i k : Nat} {out : List Int} {c d : Int} (ha : Dg a) (hb : Dg b) (h : TmI a b i k out c) (hi : i < a.length) (hk : k < b.length) (hd : d = nth out (i + k) + nth a i * nth b k + c) :
    0 ≤ d ∧ d < dB * dB ∧ TmI a b i (k + 1) (out.set (i + k) (d % dB)) (d / dB) := by
  obtain ⟨a0, a1⟩ := ha.nth i
  obtain ⟨b0, b1⟩ := hb.nth k
  obtain ⟨o0, o1⟩ := h.dg.nth (i + k)
  have hc0 := h.c0
  have hc1 := h.c1
  have hp := dB_pos
  have q0 : 0 ≤ nth a i * nth b k := Int.mul_nonneg a0 b0
  have q1 : nth a i * nth b k ≤ (dB - 1) * (dB - 1) := Int.le_trans (Int.mul_le_mul_of_nonneg_right (by omega) b0) (Int.mul_le_mul_of_nonneg_left (by omega) (by omega))
  have q2 : (dB - 1) * (dB - 1) = dB * dB - 2 * dB + 1 := by decide
  have d0 : 0 ≤ d := by omega
  have d1 : d < dB * dB := by omega
  have m0 : 0 ≤ d % dB := Int.emod_nonneg _ (by omega)
  have m1 : d % dB < dB := Int.emod_lt_of_pos _ hp
  have e1 : d = dB * (d / dB) + d % dB := (Int.mul_ediv_add_emod d dB).symm
  refine ⟨d0, d1, by rw [List.length_set]; exact h.len, h.dg.set _ ⟨m0, m1⟩, Int.ediv_nonneg d0 (by omega), Int.ediv_lt_of_lt_mul hp d1, ?_, fun j hj => ?_⟩
  · rw [valD_set (by rw [h.len]; omega), valD_take]
    have hv := h.val
    have e2 : dB ^ (i + (k + 1)) * (d / dB) = dB ^ (i + k) * (dB * (d / dB)) := by rw [← Nat.add_assoc, Int.pow_succ, Int.mul_assoc]
    have e3 : dB ^ (i + k) * (d % dB - nth out (i + k)) + dB ^ (i + k) * (dB * (d / dB)) = dB ^ (i + k) * (nth a i * nth b k) + dB ^ (i + k) * c := by
      rw [← Int.mul_add, ← Int.mul_add]; congr 1; omega
    have e4 : dB ^ i * (nth a i * (valD (b.take k) + dB ^ k * nth b k)) = dB ^ i * (nth a i * valD (b.take k)) + dB ^ (i + k) * (nth a i * nth b k) := by
      rw [Int.mul_add, Int.mul_add, Int.mul_left_comm (nth a i), ← Int.mul_assoc (dB ^ i) (dB ^ k), ← Int.pow_add]
    rw [e2, e4]; omega
  · have hj2 : i + k ≠ j := by omega
    rw [nth_set _ _ _ (by rw [h.len]; omega), if_neg (Ne.symm hj2)]
    exact h.zero j hj
theorem TmI.done {a b : List Int} {i k : Nat} {out : List Int} {c : Int} (h : TmI a b i k out c) (hi : i < a.length) (hk : k = b.length) : TmO a b (i + 1) (out.set (i + b.length) c) := by
  subst hk
  have hz := h.zero (i + b.length) (Nat.le_refl _)
  refine ⟨by rw [List.length_set]; exact h.len, h.dg.set _ ⟨h.c0, h.c1⟩, ?_, fun j hj => ?_⟩
  · have hv := h.val
    rw [valD_set (by rw [h.len]; omega), hz, Int.sub_zero, hv, List.take_of_length_le (l := b) (Nat.le_refl _), valD_take, Int.add_mul, Int.mul_assoc]
  · rw [nth_set _ _ _ (by rw [h.len]; omega), if_neg (by omega)]
    exact h.zero j (by omega)
theorem TmO.done {a b : List Int} {i : Nat} {out : List Int} (h : TmO a b i out) (hi : i = a.length) : Dg out ∧ valD out = valD a * valD b := by
  subst hi
  have := h.val
  rw [List.take_of_length_le (l := a) (Nat.le_refl _)] at this
  exact ⟨h.dg, this⟩
end Go.Proofs.YtnnmfdeeicpdlaaGreat
/- Numbers of digits with a sign: the plain law. No function of the program. -/
namespace Go.Proofs.YtnnmfdeeicpdlaaGreat

def numV (neg : Bool) (l : List Int) : Int := if neg then -valD l else valD l
structure NumK (neg : Bool) (l : List Int) (z : Int) : Prop where
  can : Can l
  val : z = numV neg l
  ok : neg = true → l ≠ []
theorem NumK.abs {neg : Bool} {l : List Int} {z : Int} (h : NumK neg l z) : valD l = z.natAbs := by
  have h1 := (valD_bd h.can.1).1
  have h2 := h.val
  unfold numV at h2
  cases neg
  · simp only [Bool.false_eq_true, if_false] at h2; omega
  · simp only [if_true] at h2; omega
theorem Can.pos {l : List Int} (h : Can l) (hl : l ≠ []) : 0 < valD l := by
  have := h.low hl
  have := dB_pow_pos (l.length - 1)
  omega
theorem NumK.neg_iff {neg : Bool} {l : List Int} {z : Int} (h : NumK neg l z) : neg = decide (z < 0) := by
  have h1 := (valD_bd h.can.1).1
  have h2 := h.val
  unfold numV at h2
  cases neg
  · simp only [Bool.false_eq_true, if_false] at h2
    exact (decide_eq_false (by omega)).symm
  · simp only [if_true] at h2
    have := h.can.pos (h.ok rfl)
    exact (decide_eq_true (by omega)).symm
theorem NumK.sign {neg : Bool} {l : List Int} (h : Can l) : NumK (if l = [] then false else neg) l (numV neg l) := by
  by_cases hl : l = []
  · subst hl
    rw [if_pos rfl]
    refine ⟨h, ?_, fun e => by cases e⟩
    cases neg <;> simp [numV, valD]
  · rw [if_neg hl]
    exact ⟨h, rfl, fun _ => hl⟩
theorem NumK.plus_same {n : Bool} {a b l : List Int} {x y : Int} (ha : NumK n a x) (hb : NumK n b y) (hl : Can l) (hv : valD l = valD a + valD b) : NumK n l (x + y) := by
  refine ⟨hl, ?_, fun hn hz => ?_⟩
  · have h1 := ha.val
    have h2 := hb.val
    unfold numV at *
    cases n
    · simp only [Bool.false_eq_true, if_false] at *; omega
    · simp only [if_true] at *; omega
  · subst hz
    have h1 := ha.can.pos (ha.ok hn)
    have h2 := (valD_bd hb.can.1).1
    simp only [valD] at hv
    omega
theorem numV_less {n m : Bool} {a b l : List Int} {x y : Int} (hnm : n ≠ m) (ha : NumK n a x) (hb : NumK m b y) (hv : valD l = valD a - valD b) : numV n l = x + y := by
  have h1 := ha.val
  have h2 := hb.val
  unfold numV at *
  cases n <;> cases m
  · exact absurd rfl hnm
  · simp only [Bool.false_eq_true, if_false, if_true] at *; omega
  · simp only [Bool.false_eq_true, if_false, if_true] at *; omega
  · exact absurd rfl hnm
theorem numV_mul {n m : Bool} {a b l : List Int} {x y : Int} (ha : NumK n a x) (hb : NumK m b y) (hv : valD l = valD a * valD b) : numV (n != m) l = x * y := by
  have h1 := ha.val
  have h2 := hb.val
  unfold numV at *
  cases n <;> cases m <;> simp only [Bool.false_eq_true, if_false, if_true, bne_self_eq_false, Bool.bne_true, Bool.not_false, Bool.bne_false] at * <;> rw [hv, h1, h2]
  · rw [Int.mul_neg]
  · rw [Int.neg_mul]
  · rw [Int.neg_mul, Int.mul_neg, Int.neg_neg]
end Go.Proofs.YtnnmfdeeicpdlaaGreat
/- Digits of an int, and back: the plain law. No function of the program. -/
namespace Go.Proofs.YtnnmfdeeicpdlaaGreat

structure OfI (z : Int) (i : Nat) (out : List Int) (n : Int) : Prop where
  len : out.length = i
  dg : Dg out
  val : valD out + dB ^ i * (n.natAbs : Int) = (z.natAbs : Int)
  can : n = 0 → Can out
theorem OfI.start (z : Int) : OfI z 0 [] z := ⟨rfl, Dg.nil, by simp [valD], fun _ => Can.nil⟩
theorem OfI.step {z : Int} {i : Nat} {out : List Int} {n d m : Int} (h : OfI z i out n) (hn : n ≠ 0) (hd : d = (n.natAbs : Int) % dB) (hm : (m.natAbs : Int) = (n.natAbs : Int) / dB) : OfI z (i + 1) (out ++ [d]) m := by
  have hp := dB_pos
  have m0 : 0 ≤ d := by rw [hd]; exact Int.emod_nonneg _ (by omega)
  have m1 : d < dB := by rw [hd]; exact Int.emod_lt_of_pos _ hp
  have e1 := Int.mul_ediv_add_emod (n.natAbs : Int) dB
  rw [← hd, ← hm] at e1
  refine ⟨by rw [List.length_append, h.len]; rfl, h.dg.app (Dg.one ⟨m0, m1⟩), ?_, fun hz => ?_⟩
  · rw [valD_snoc, h.len, Int.pow_succ, Int.mul_assoc]
    have hv := h.val
    have e2 : dB ^ i * d + dB ^ i * (dB * (m.natAbs : Int)) = dB ^ i * (n.natAbs : Int) := by rw [← Int.mul_add]; congr 1; omega
    omega
  · subst hz
    simp only [Int.natAbs_zero, Int.natCast_zero, Int.mul_zero, Int.zero_add] at e1
    exact Can.snoc h.dg (by omega) m1
theorem OfI.done {z : Int} {i : Nat} {out : List Int} (h : OfI z i out 0) : NumK (decide (z < 0)) out z := by
  have hv := h.val
  simp only [Int.natAbs_zero, Int.natCast_zero, Int.mul_zero, Int.add_zero] at hv
  refine ⟨h.can rfl, ?_, fun hn hz => ?_⟩
  · unfold numV
    by_cases h0 : z < 0
    · rw [decide_eq_true h0, if_pos rfl]; omega
    · rw [decide_eq_false h0]
      simp only [Bool.false_eq_true, if_false]; omega
  · subst hz
    have := of_decide_eq_true hn
    simp only [valD] at hv
    omega
theorem tmod_abs (n : Int) : ((Int.tmod n dB).natAbs : Int) = (n.natAbs : Int) % dB := by
  have h : (Int.tmod n dB).natAbs = n.natAbs % 268435456 := by rw [Int.natAbs_tmod]; rfl
  rw [h]; exact Int.natCast_emod _ _
theorem tdiv_abs (n : Int) : ((Int.tdiv n dB).natAbs : Int) = (n.natAbs : Int) / dB := by
  have h : (Int.tdiv n dB).natAbs = n.natAbs / 268435456 := by rw [Int.natAbs_tdiv]; rfl
  rw [h]; exact Int.natCast_ediv _ _
theorem back_step {l : List Int} {i : Nat} (h : i < l.length) : valD (l.drop i) = nth l i + dB * valD (l.drop (i + 1)) := by
  rw [List.drop_eq_getElem_cons h, valD, nth_in h]
end Go.Proofs.YtnnmfdeeicpdlaaGreat
/- Regions that draw their order, by a schedule that may branch in two: where two operations that make memory are ready, each may come first. No program in sight. -/
namespace Go.Proofs.YtnnmfdeeicpdlaaGreat
open Go.RowKit

inductive Sch where
  | done : Sch
  | q : Nat → Sch → Sch
  | one : Nat → Sch → Sch
  | two : Nat → Sch → Nat → Sch → Sch
section
variable {P : Program} {md : Region.Mode} {κ : Type} {Cl : κ → World} {l : List Oper} {ops : Array Oper}

def spB (P : Program) (l : List Oper) (ops : Array Oper) (Cl : κ → World) (i : Nat) (X : Act → World → Prop) (a : Act) (w : World) : Prop :=
  ∃ o, l[i]? = some o ∧ ∀ d, (if Region.wanted o (yielded ops a.tmps) then sOp P o a (fun a' w' => (∃ k, w' = Cl k) ∧ X a' w') (bw w d) else (∃ k, bw w d = Cl k) ∧ X (a.put o.dst undef) (bw w d))
def wpMB (P : Program) (l : List Oper) (ops : Array Oper) (Cl : κ → World) (Q : Act → World → Prop) : Sch → Act → World → Prop
  | .done, a, w => ∀ d, Q a (bw w d)
  | .q i s, a, w => ∃ o, l[i]? = some o ∧ (if Region.wanted o (yielded ops a.tmps) then mOp P Cl o a (fun a' => wpMB P l ops Cl Q s a' w) else wpMB P l ops Cl Q s (a.put o.dst undef) w)
  | .one i s, a, w => spB P l ops Cl i (wpMB P l ops Cl Q s) a w
  | .two i s j t, a, w => spB P l ops Cl i (wpMB P l ops Cl Q s) a w ∧ spB P l ops Cl j (wpMB P l ops Cl Q t) a w
def lexMB (md : Region.Mode) (ops : Array Oper) (n g : Nat) : Nat → Sch → Array Bool → Bool
  | 0, .done, listed => Region.seqB md ops g n listed
  | f + 1, .q i s, listed => decide (i < n) && (Region.ready md ops listed).contains i && Region.free md ops listed i && lexMB md ops n g f s (listed.setIfInBounds i true)
  | f + 1, .one i s, listed => decide (i < n) && decide (Region.ready md ops listed = [i]) && lexMB md ops n g f s (listed.setIfInBounds i true)
  | f + 1, .two i s j t, listed => decide (i < n) && decide (j < n) && decide (Region.ready md ops listed = [i, j]) && lexMB md ops n g f s (listed.setIfInBounds i true) && lexMB md ops n g f t (listed.setIfInBounds j true)
  | _, _, _ => false

theorem mixT_of_wpMB {n g : Nat} {Lq : Act → World → Prop} (hCl : ∀ k d, ∃ k', bw (Cl k) d = Cl k') (hl : ∀ j : Nat, l[j]? = ops[j]?) (hsel : Region.noSelect ops = true) (hs : Region.sinkB md ops n = true) (hc : Region.chainB md ops n = true) (hn : n < ops.size) :
    ∀ (f : Nat) (s : Sch) (listed : Array Bool) (a : Act) (w : World), HeadInv md ops n listed → (∃ k, w = Cl k) → lexMB md ops n g f s listed = true →
    wpMB P l ops Cl Lq s a w → mixT P md ops Cl n (fun listed' a' w' => Region.seqB md ops g n listed' = true ∧ Lq a' w') f listed a w
  | 0, .done, listed, a, w, inv, hw, hB, h => fun d => ⟨hB, h d⟩
  | f + 1, .q k s, listed, a, w, inv, hw, hB, h => by
    simp only [lexMB, Bool.and_eq_true, decide_eq_true_eq] at hB
    obtain ⟨⟨⟨hkn, hr⟩, hf⟩, hB'⟩ := hB
    obtain ⟨o, ho, h⟩ := h
    have h0 : ops[k]? = some o := (hl k).symm.trans ho
    have hr' : k ∈ Region.ready md ops listed := by simpa using hr
    have hy : ∃ v, YieldsM P ops Cl o v a ∧ wpMB P l ops Cl Lq s (a.put o.dst v) w := by
      by_cases hw1 : Region.wanted o (yielded ops a.tmps) = true
      · rw [if_pos hw1] at h
        obtain ⟨v, h1, h2⟩ := h
        exact ⟨v, .inl ⟨hw1, h1⟩, h2⟩
      · rw [if_neg hw1] at h
        exact ⟨undef, .inr ⟨by simpa using hw1, rfl⟩, h⟩
    obtain ⟨v, hy, hK⟩ := hy
    exact mixT_first hCl h0 (Region.noSelect_spec hsel) hs hc hn hkn (fun _ _ _ hL => seqB_ready hL.1) f listed a w hw inv (Region.free_spec h0 hf) hr' hy
      (mixT_of_wpMB hCl hl hsel hs hc hn f s _ _ w (inv.set hr' hkn) hw hB' hK)
  | f + 1, .one k s, listed, a, w, inv, hw, hB, h => by
    simp only [lexMB, Bool.and_eq_true, decide_eq_true_eq] at hB
    obtain ⟨⟨hkn, hr⟩, hB'⟩ := hB
    obtain ⟨o, ho, h⟩ := h
    have h0 : ops[k]? = some o := (hl k).symm.trans ho
    have inv' := inv.set (i := k) (by rw [hr]; simp) hkn
    refine ⟨by rw [hr]; simp, fun i hi => ?_⟩
    rw [hr] at hi
    obtain rfl : i = k := by simpa using hi
    refine ⟨hkn, fun d => ?_⟩
    have hd := h d
    rw [oneOp_some h0]
    split
    · rename_i hw1; rw [if_pos hw1] at hd
      exact sOp_mono (fun a' w' hk' => ⟨hk'.1, mixT_of_wpMB hCl hl hsel hs hc hn f s _ _ w' inv' hk'.1 hB' hk'.2⟩) hd
    · rename_i hw1; rw [if_neg hw1] at hd
      exact ⟨hd.1, mixT_of_wpMB hCl hl hsel hs hc hn f s _ _ _ inv' hd.1 hB' hd.2⟩
  | f + 1, .two k s j t, listed, a, w, inv, hw, hB, h => by
    simp only [lexMB, Bool.and_eq_true, decide_eq_true_eq] at hB
    obtain ⟨⟨⟨⟨hkn, hjn⟩, hr⟩, hB1⟩, hB2⟩ := hB
    obtain ⟨⟨o1, ho1, h1⟩, o2, ho2, h2⟩ := h
    have e1 : ops[k]? = some o1 := (hl k).symm.trans ho1
    have e2 : ops[j]? = some o2 := (hl j).symm.trans ho2
    have inv1 := inv.set (i := k) (by rw [hr]; simp) hkn
    have inv2 := inv.set (i := j) (by rw [hr]; simp) hjn
    refine ⟨by rw [hr]; simp, fun i hi => ?_⟩
    rw [hr] at hi
    have hi' : i = k ∨ i = j := by simpa using hi
    rcases hi' with rfl | rfl
    · refine ⟨hkn, fun d => ?_⟩
      have hd := h1 d
      rw [oneOp_some e1]
      split
      · rename_i hw1; rw [if_pos hw1] at hd
        exact sOp_mono (fun a' w' hk' => ⟨hk'.1, mixT_of_wpMB hCl hl hsel hs hc hn f s _ _ w' inv1 hk'.1 hB1 hk'.2⟩) hd
      · rename_i hw1; rw [if_neg hw1] at hd
        exact ⟨hd.1, mixT_of_wpMB hCl hl hsel hs hc hn f s _ _ _ inv1 hd.1 hB1 hd.2⟩
    · refine ⟨hjn, fun d => ?_⟩
      have hd := h2 d
      rw [oneOp_some e2]
      split
      · rename_i hw1; rw [if_pos hw1] at hd
        exact sOp_mono (fun a' w' hk' => ⟨hk'.1, mixT_of_wpMB hCl hl hsel hs hc hn f t _ _ w' inv2 hk'.1 hB2 hk'.2⟩) hd
      · rename_i hw1; rw [if_neg hw1] at hd
        exact ⟨hd.1, mixT_of_wpMB hCl hl hsel hs hc hn f t _ _ _ inv2 hd.1 hB2 hd.2⟩
  | 0, .q _ _, _, _, _, _, _, hB, _ => by simp [lexMB] at hB
  | 0, .one _ _, _, _, _, _, _, hB, _ => by simp [lexMB] at hB
  | 0, .two _ _ _ _, _, _, _, _, _, hB, _ => by simp [lexMB] at hB
  | _ + 1, .done, _, _, _, _, _, hB, _ => by simp [lexMB] at hB

theorem region_mixB {id : Nat} {Q : Exit → Act → World → Prop} {a : Act} {w : World} {l : List Oper} (n : Nat) (s : Sch) (hm : P.follows .mixedOrders = true) (hsel : Region.noSelect l.toArray = true)
    (hs : Region.sinkB .any l.toArray n = true) (hc : Region.chainB .any l.toArray n = true) (hn : n < l.toArray.size)
    (hB : lexMB .any l.toArray n (l.toArray.size - n) n s (Array.replicate l.toArray.size false) = true)
    (h : wpMB P l l.toArray (fun d => bw w d) (fun a w => wpList P l.toArray Q (l.drop n) a w) s a w) : (Code.region id l.toArray true).wp P Q a w := by
  have hdl : (l.drop n).length = l.toArray.size - n := by simp
  have inv0 : HeadInv .any l.toArray n (Array.replicate l.toArray.size false) :=
    ⟨by simp, fun j oj _ hl => (by rw [getD_replicate_false] at hl; cases hl), fun t _ ht => getD_in (by simpa using ht) (getD_replicate_false _ _)⟩
  have H := mixT_of_wpMB (md := .any) (g := l.toArray.size - n) (fun k d => ⟨_, bw_bw w k d⟩) (fun j => by simp) hsel hs hc hn n s _ a w inv0 ⟨noExt w, (bw_noExt w).symm⟩ hB h
  refine wp_region_any hm ?_
  have := mixT_ext (⟨#[], w.drawn + 1⟩ : Ext) H
  rw [← bw_drewExt] at this
  have := mixT_sound (Q' := Q) (g := l.toArray.size - n) (fun listed a' w' hL => by
    have := wpAny_of_seq (md := .any) (Q' := Q) (l.drop n) n listed a' w' (fun j => by simp [List.getElem?_drop]) (by rw [hdl]; exact hL.1) hL.2
    rwa [hdl] at this) _ _ _ _ this
  rw [show n + (l.toArray.size - n) = l.toArray.size by omega] at this
  exact this
theorem wpMB_quiet {Q : Act → World → Prop} {a : Act} {w : World} {i : Nat} {o : Oper} {s : Sch} (ho : l[i]? = some o)
    (h : ∀ K : Act → Prop, (∀ a, wpMB P l ops Cl Q s a w → K a) → if Region.wanted o (yielded ops a.tmps) then mOp P Cl o a K else K (a.put o.dst undef)) : wpMB P l ops Cl Q (.q i s) a w :=
  ⟨o, ho, h _ (fun _ h => h)⟩
theorem spB_of {X : Act → World → Prop} {a : Act} {w : World} {i : Nat} {o : Oper} (ho : l[i]? = some o)
    (h : ∀ (K : Act → World → Prop), (∀ a' w', (∃ k, w' = Cl k) → X a' w' → K a' w') → ∀ d, if Region.wanted o (yielded ops a.tmps) then sOp P o a K (bw w d) else K (a.put o.dst undef) (bw w d)) : spB P l ops Cl i X a w :=
  ⟨o, ho, fun d => by
    have := h (fun a' w' => (∃ k, w' = Cl k) ∧ X a' w') (fun _ _ h1 h2 => ⟨h1, h2⟩) d
    split
    · rename_i hw; rw [if_pos hw] at this; exact this
    · rename_i hw; rw [if_neg hw] at this; exact this⟩
theorem wpMB_one {Q : Act → World → Prop} {a : Act} {w : World} {i : Nat} {s : Sch} (h : spB P l ops Cl i (wpMB P l ops Cl Q s) a w) : wpMB P l ops Cl Q (.one i s) a w := h
theorem wpMB_two {Q : Act → World → Prop} {a : Act} {w : World} {i j : Nat} {s t : Sch} (h1 : spB P l ops Cl i (wpMB P l ops Cl Q s) a w) (h2 : spB P l ops Cl j (wpMB P l ops Cl Q t) a w) : wpMB P l ops Cl Q (.two i s j t) a w := ⟨h1, h2⟩
theorem wpMB_done {Q : Act → World → Prop} {a : Act} {w : World} (h : ∀ d, Q a (bw w d)) : wpMB P l ops Cl Q .done a w := h
end
end Go.Proofs.YtnnmfdeeicpdlaaGreat

/- Contracts and plain laws, several texts in one: DgP; DgQ; Dia; DgR -/
import Derived.Test.YtmomoeagnkjbiaaGreatProg
import Derived.WalkKit
import Derived.WalkSpells
import Derived.WalkLawsBesides
import Derived.Lib.Hide
import Derived.BigQuiet
import Derived.Test.YtmomoeagnkjbiaaGreatBAA
import Derived.Test.YtmomoeagnkjbiaaGreatBAB
/- Lists of digits of 28 bits, the least one first: the plain law. No function of the program. -/
namespace Go.Proofs.YtmomoeagnkjbiaaGreat

/-- The base. -/
def dB : Int := 268435456
theorem dB_pos : 0 < dB := by decide
/-- The value of digits. -/
def valD : List Int → Int
  | [] => 0
  | d :: l => d + dB * valD l
def Dg (l : List Int) : Prop := ∀ d ∈ l, 0 ≤ d ∧ d < dB
/-- Digits without zeros at the end. -/
def Can (l : List Int) : Prop := Dg l ∧ l.getLast? ≠ some 0
theorem Dg.nil : Dg [] := fun _ h => absurd h List.not_mem_nil
theorem Can.nil : Can [] := ⟨Dg.nil, by simp⟩
theorem Dg.app {a b : List Int} (ha : Dg a) (hb : Dg b) : Dg (a ++ b) := fun d hd => (List.mem_append.1 hd).elim (ha d) (hb d)
theorem Dg.one {d : Int} (h : 0 ≤ d ∧ d < dB) : Dg [d] := fun x hx => by rw [List.mem_singleton.1 hx]; exact h
theorem Dg.take {l : List Int} (h : Dg l) (k : Nat) : Dg (l.take k) := fun d hd => h d (List.mem_of_mem_take hd)
theorem Dg.drop {l : List Int} (h : Dg l) (k : Nat) : Dg (l.drop k) := fun d hd => h d (List.mem_of_mem_drop hd)
theorem Dg.tail {d : Int} {l : List Int} (h : Dg (d :: l)) : Dg l := fun x hx => h x (List.mem_cons_of_mem _ hx)
theorem Dg.nth {l : List Int} (h : Dg l) (i : Nat) : 0 ≤ nth l i ∧ nth l i < dB := by
  by_cases hi : i < l.length
  · have : Go.Proofs.YtmomoeagnkjbiaaGreat.nth l i = l[i] := by unfold Go.Proofs.YtmomoeagnkjbiaaGreat.nth; rw [List.getD_eq_getElem?_getD, List.getElem?_eq_getElem hi]; rfl
    rw [this]; exact h _ (List.getElem_mem hi)
  · have : Go.Proofs.YtmomoeagnkjbiaaGreat.nth l i = 0 := by unfold Go.Proofs.YtmomoeagnkjbiaaGreat.nth; rw [List.getD_eq_getElem?_getD, List.getElem?_eq_none (by omega)]; rfl
    rw [this]; exact ⟨Int.le_refl _, dB_pos⟩
theorem valD_app : ∀ (a b : List Int), valD (a ++ b) = valD a + dB ^ a.length * valD b
  | [], b => by simp [valD]
  | d :: a, b => by
    rw [List.cons_append, valD, valD, valD_app a b, List.length_cons, Int.pow_succ, Int.mul_add, Int.add_assoc, Int.mul_comm (dB ^ a.length) dB, Int.mul_assoc]
theorem valD_one (d : Int) : valD [d] = d := by simp [valD]
theorem valD_snoc (l : List Int) (d : Int) : valD (l ++ [d]) = valD l + dB ^ l.length * d := by rw [valD_app, valD_one]
theorem dB_pow_pos (k : Nat) : 0 < dB ^ k := Int.pow_pos dB_pos
theorem valD_bd : ∀ {l : List Int}, Dg l → 0 ≤ valD l ∧ valD l < dB ^ l.length
  | [], _ => by simp [valD]
  | d :: l, h => by
    obtain ⟨h1, h2⟩ := valD_bd h.tail
    obtain ⟨h3, h4⟩ := h d (List.mem_cons_self ..)
    rw [valD, List.length_cons, Int.pow_succ, Int.mul_comm]
    have hp := dB_pos
    have k1 : 0 ≤ valD l * dB := Int.mul_nonneg h1 (Int.le_of_lt hp)
    have k2 : (valD l + 1) * dB ≤ dB ^ l.length * dB := Int.mul_le_mul_of_nonneg_right h2 (Int.le_of_lt hp)
    rw [Int.add_mul, Int.one_mul] at k2
    omega
/-- One more digit. -/
theorem take_snoc {l : List Int} {i : Nat} (h : i < l.length) : l.take (i + 1) = l.take i ++ [nth l i] := by
  have : nth l i = l[i] := by unfold nth; rw [List.getD_eq_getElem?_getD, List.getElem?_eq_getElem h]; rfl
  rw [List.take_add_one, List.getElem?_eq_getElem h, this]; rfl
theorem valD_take {l : List Int} (i : Nat) : valD (l.take (i + 1)) = valD (l.take i) + dB ^ i * nth l i := by
  by_cases h : i < l.length
  · rw [take_snoc h, valD_snoc, List.length_take, Nat.min_eq_left (by omega)]
  · have : nth l i = 0 := by unfold nth; rw [List.getD_eq_getElem?_getD, List.getElem?_eq_none (by omega)]; rfl
    rw [this, Int.mul_zero, Int.add_zero, List.take_of_length_le (by omega), List.take_of_length_le (by omega)]
theorem Can.last {l : List Int} (h : Can l) (hl : l ≠ []) : 0 < nth l (l.length - 1) := by
  have hp := List.length_pos_iff.2 hl
  have h1 : nth l (l.length - 1) = l.getLast hl := by
    rw [List.getLast_eq_getElem]; unfold nth
    rw [List.getD_eq_getElem?_getD, List.getElem?_eq_getElem (by omega)]; rfl
  have h2 := h.2
  rw [List.getLast?_eq_some_getLast hl] at h2
  have h3 := (h.1.nth (l.length - 1)).1
  rw [h1] at h3 ⊢
  have : l.getLast hl ≠ 0 := fun e => h2 (by rw [e])
  omega
/-- A number of k digits is at least the base to the k - 1. -/
theorem Can.low {l : List Int} (h : Can l) (hl : l ≠ []) : dB ^ (l.length - 1) ≤ valD l := by
  have hp := List.length_pos_iff.2 hl
  have h1 := h.last hl
  have h2 : valD l = valD (l.take (l.length - 1)) + dB ^ (l.length - 1) * nth l (l.length - 1) := by
    have := valD_take (l := l) (l.length - 1)
    rw [Nat.sub_add_cancel hp, List.take_length] at this
    exact this
  have h3 := (valD_bd (h.1.take (l.length - 1))).1
  have h4 : dB ^ (l.length - 1) * 1 ≤ dB ^ (l.length - 1) * nth l (l.length - 1) := Int.mul_le_mul_of_nonneg_left h1 (Int.le_of_lt (dB_pow_pos _))
  rw [Int.mul_one] at h4
  omega
theorem Can.zero {l : List Int} (h : Can l) (hv : valD l = 0) : l = [] := by
  by_cases hl : l = []
  · exact hl
  · have := h.low hl
    have := dB_pow_pos (l.length - 1)
    omega
theorem dB_pow_le {a b : Nat} (h : a ≤ b) : dB ^ a ≤ dB ^ b := by
  obtain ⟨c, rfl⟩ := Nat.le.dest h
  rw [Int.pow_add]
  have := Int.mul_le_mul_of_nonneg_left (show 1 ≤ dB ^ c from dB_pow_pos c) (Int.le_of_lt (dB_pow_pos a))
  rw [Int.mul_one] at this
  exact this
/-- Fewer digits, a smaller number. -/
theorem Can.short {a b : List Int} (ha : Dg a) (hb : Can b) (h : a.length < b.length) : valD a < valD b := by
  have h1 := (valD_bd ha).2
  have h2 := hb.low (by rintro rfl; simp at h)
  have h3 := dB_pow_le (a := a.length) (b := b.length - 1) (by omega)
  omega
/-- A list that ends in a digit that is not 0. -/
theorem Can.snoc {l : List Int} {d : Int} (h : Dg l) (hd : 0 < d) (hd2 : d < dB) : Can (l ++ [d]) := by
  refine ⟨h.app (Dg.one ⟨by omega, hd2⟩), ?_⟩
  rw [List.getLast?_append]
  simp; omega
/-- Without its zeros at the end. -/
def trimD (l : List Int) : List Int := (l.reverse.dropWhile (· == 0)).reverse
theorem trim_snoc (l : List Int) (d : Int) : trimD (l ++ [d]) = if d = 0 then trimD l else l ++ [d] := by
  unfold trimD
  rw [List.reverse_append, List.reverse_singleton, List.singleton_append, List.dropWhile_cons]
  by_cases h : d = 0
  · subst h; simp
  · simp [h]
theorem trim_nil : trimD [] = [] := rfl
theorem trim_ok : ∀ (n : Nat) (l : List Int), l.length = n → Dg l → Can (trimD l) ∧ valD (trimD l) = valD l
  | 0, l, h, _ => by
    obtain rfl := List.eq_nil_of_length_eq_zero h
    exact ⟨Can.nil, rfl⟩
  | n + 1, l, h, hd => by
    have hl : l ≠ [] := by rintro rfl; simp at h
    obtain ⟨l', d, rfl⟩ : ∃ l' d, l = l' ++ [d] := ⟨l.dropLast, l.getLast hl, (List.dropLast_concat_getLast hl).symm⟩
    have hd' : Dg l' := fun x hx => hd x (List.mem_append_left _ hx)
    have hdd := hd d (List.mem_append_right _ (List.mem_singleton.2 rfl))
    rw [List.length_append, List.length_singleton] at h
    obtain ⟨i1, i2⟩ := trim_ok n l' (by omega) hd'
    rw [trim_snoc]
    by_cases h0 : d = 0
    · rw [if_pos h0, valD_snoc, h0, Int.mul_zero, Int.add_zero]; exact ⟨i1, i2⟩
    · rw [if_neg h0]; exact ⟨Can.snoc hd' (by omega) hdd.2, rfl⟩
theorem trim_len (l : List Int) : (trimD l).length ≤ l.length := by
  unfold trimD
  rw [List.length_reverse]
  have := (List.dropWhile_sublist (p := (· == 0)) (l := l.reverse)).length_le
  rw [List.length_reverse] at this; exact this
end Go.Proofs.YtmomoeagnkjbiaaGreat
/- Digits: order, sum, difference, product, quotient, step by step. The plain law. No function of the program. -/
namespace Go.Proofs.YtmomoeagnkjbiaaGreat

theorem nth_out {l : List Int} {i : Nat} (h : l.length ≤ i) : nth l i = 0 := by unfold nth; rw [List.getD_eq_getElem?_getD, List.getElem?_eq_none h]; rfl
theorem nth_in {l : List Int} {i : Nat} (h : i < l.length) : nth l i = l[i] := by unfold nth; rw [List.getD_eq_getElem?_getD, List.getElem?_eq_getElem h]; rfl
theorem valD_split {l : List Int} {i : Nat} (h : i < l.length) : valD l = valD (l.take i) + dB ^ i * nth l i + dB ^ (i + 1) * valD (l.drop (i + 1)) := by
  have e : valD l = valD (l.take (i + 1)) + dB ^ (i + 1) * valD (l.drop (i + 1)) := by
    have := valD_app (l.take (i + 1)) (l.drop (i + 1))
    rw [List.take_append_drop, List.length_take, Nat.min_eq_left (by omega)] at this
    exact this
  rw [e, valD_take]
/-- The first difference from above decides. -/
theorem ord_diff {a b : List Int} (ha : Dg a) (hb : Dg b) (hl : a.length = b.length) {i : Nat} (hi : i < a.length) (hd : a.drop (i + 1) = b.drop (i + 1)) (h : nth a i < nth b i) : valD a < valD b := by
  rw [valD_split hi, valD_split (l := b) (i := i) (by omega), hd]
  have h1 := (valD_bd (ha.take i)).2
  have h2 := (valD_bd (hb.take i)).1
  rw [List.length_take, Nat.min_eq_left (by omega)] at h1
  have hp := dB_pow_pos i
  have h3 := Int.mul_le_mul_of_nonneg_left (show nth a i + 1 ≤ nth b i from h) (Int.le_of_lt hp)
  rw [Int.mul_add, Int.mul_one] at h3
  omega
theorem drop_step {a b : List Int} (hl : a.length = b.length) {i : Nat} (hi : i < a.length) (hd : a.drop (i + 1) = b.drop (i + 1)) (h : nth a i = nth b i) : a.drop i = b.drop i := by
  have hi2 : i < b.length := by omega
  rw [List.drop_eq_getElem_cons hi, List.drop_eq_getElem_cons hi2, hd, ← nth_in hi, ← nth_in hi2, h]
/-- -1, 0, 1 as the first number is less, equal, greater. -/
def ordI (x y : Int) : Int := if x < y then -1 else if y < x then 1 else 0
/-- The sum, i digits of it. -/
structure SumI (a b : List Int) (i : Nat) (out : List Int) (c : Int) : Prop where
  len : out.length = i
  dg : Dg out
  c0 : 0 ≤ c
  c1 : c ≤ 1
  val : valD out + dB ^ i * c = valD (a.take i) + valD (b.take i)
  can : a.length ≤ i → b.length ≤ i → c = 0 → Can out
theorem SumI.start (a b : List Int) : SumI a b 0 [] 0 := ⟨rfl, Dg.nil, Int.le_refl _, by decide, by simp [valD], fun _ _ _ => Can.nil⟩
theorem SumI.step {a b : List Int} {i : Nat} {out : List Int} {c : Int} (ha : Can a) (hb : Can b) (h : SumI a b i out c) (hgo : i < a.length ∨ i < b.length ∨ 0 < c) : SumI a b (i + 1) (out ++ [(c + nth a i + nth b i) % dB]) ((c + nth a i + nth b i) / dB) := by
  obtain ⟨a0, a1⟩ := ha.1.nth i
  obtain ⟨b0, b1⟩ := hb.1.nth i
  have hc0 := h.c0
  have hc1 := h.c1
  have hB : dB = 268435456 := rfl
  obtain ⟨d, hd⟩ : ∃ d, c + nth a i + nth b i = d := ⟨_, rfl⟩
  rw [hd]
  have m0 : 0 ≤ d % dB := Int.emod_nonneg _ (by omega)
  have m1 : d % dB < dB := Int.emod_lt_of_pos _ (by omega)
  have e1 : d = dB * (d / dB) + d % dB := (Int.mul_ediv_add_emod d dB).symm
  refine ⟨by rw [List.length_append, h.len]; rfl, h.dg.app (Dg.one ⟨m0, m1⟩), ?_, ?_, ?_, fun ka kb k0 => ?_⟩
  · rw [hB]; omega
  · have a2 := a1
    have b2 := b1
    rw [hB] at a2 b2 ⊢
    omega
  · rw [valD_snoc, h.len, valD_take, valD_take, Int.pow_succ, Int.mul_assoc]
    have h1 := h.val
    have h2 : dB ^ i * (d % dB) + dB ^ i * (dB * (d / dB)) = dB ^ i * c + dB ^ i * nth a i + dB ^ i * nth b i := by
      rw [← Int.mul_add, ← Int.mul_add, ← Int.mul_add, hd]
      congr 1; omega
    omega
  · have hlt : d < dB := by
      rw [k0, Int.mul_zero, Int.zero_add] at e1
      exact Int.lt_of_le_of_lt (Int.le_of_eq e1) m1
    have hm : d % dB = d := Int.emod_eq_of_lt (by omega) hlt
    rw [hm]
    refine Can.snoc h.dg ?_ hlt
    rcases hgo with hgo | hgo | hgo
    · have hne : a ≠ [] := by rintro rfl; simp at hgo
      have := ha.last hne
      rw [show a.length - 1 = i by omega] at this
      omega
    · have hne : b ≠ [] := by rintro rfl; simp at hgo
      have := hb.last hne
      rw [show b.length - 1 = i by omega] at this
      omega
    · omega
theorem SumI.done {a b : List Int} {i : Nat} {out : List Int} {c : Int} (h : SumI a b i out c) (h1 : a.length ≤ i) (h2 : b.length ≤ i) (h3 : ¬ 0 < c) : Can out ∧ valD out = valD a + valD b := by
  have hc : c = 0 := by have := h.c0; omega
  have hv := h.val
  rw [hc, Int.mul_zero, List.take_of_length_le h1, List.take_of_length_le h2] at hv
  exact ⟨h.can h1 h2 hc, by omega⟩
/-- The difference, i digits of it. -/
structure LesI (a b : List Int) (i : Nat) (out : List Int) (c : Int) : Prop where
  len : out.length = i
  dg : Dg out
  c01 : c = 0 ∨ c = 1
  val : valD out + valD (b.take i) = valD (a.take i) + dB ^ i * c
theorem LesI.start (a b : List Int) : LesI a b 0 [] 0 := ⟨rfl, Dg.nil, Or.inl rfl, by simp [valD]⟩
theorem LesI.step {a b : List Int} {i : Nat} {out : List Int} {c d e f : Int} (ha : Dg a) (hb : Dg b) (h : LesI a b i out c) (hd : d = nth a i - c - nth b i) (he : e = if d < 0 then d + dB else d) (hf : f = if d < 0 then 1 else 0) : LesI a b (i + 1) (out ++ [e]) f := by
  obtain ⟨a0, a1⟩ := ha.nth i
  obtain ⟨b0, b1⟩ := hb.nth i
  have hc := h.c01
  have hB : dB = 268435456 := rfl
  have hE : 0 ≤ e ∧ e < dB ∧ e = nth a i - c - nth b i + dB * f ∧ (f = 0 ∨ f = 1) := by
    by_cases h0 : d < 0
    · rw [if_pos h0] at he hf; rw [hf, Int.mul_one]; omega
    · rw [if_neg h0] at he hf; rw [hf, Int.mul_zero]; omega
  refine ⟨by rw [List.length_append, h.len]; rfl, h.dg.app (Dg.one ⟨hE.1, hE.2.1⟩), hE.2.2.2, ?_⟩
  rw [valD_snoc, h.len, valD_take, valD_take, Int.pow_succ, Int.mul_assoc]
  have h1 := h.val
  have h2 : dB ^ i * e + dB ^ i * nth b i = dB ^ i * nth a i + dB ^ i * (dB * f) - dB ^ i * c := by
    rw [hE.2.2.1, ← Int.mul_add, ← Int.mul_add, ← Int.mul_sub]
    congr 1; omega
  omega
theorem LesI.done {a b : List Int} {i : Nat} {out : List Int} {c : Int} (h : LesI a b i out c) (h1 : a.length = i) (h2 : b.length ≤ i) (hv : valD b ≤ valD a) : valD out = valD a - valD b := by
  have hw := h.val
  rw [List.take_of_length_le (l := a) (by omega), List.take_of_length_le (l := b) h2] at hw
  have h3 := (valD_bd h.dg).2
  rw [h.len] at h3
  have h4 := dB_pow_pos i
  rcases h.c01 with hc | hc
  · rw [hc, Int.mul_zero] at hw; omega
  · rw [hc, Int.mul_one] at hw; omega
/-- One digit is turned. -/
theorem valD_set : ∀ {l : List Int} {j : Nat}, j < l.length → ∀ v, valD (l.set j v) = valD l + dB ^ j * (v - nth l j)
  | [], j, h, _ => by simp at h
  | d :: l, 0, _, v => by
    rw [List.set_cons_zero, valD, valD]
    show _ = d + dB * valD l + dB ^ 0 * (v - d)
    rw [Int.pow_zero, Int.one_mul]; omega
  | d :: l, j + 1, h, v => by
    rw [List.set_cons_succ, valD, valD, valD_set (by simpa using h) v]
    show _ = d + dB * valD l + dB ^ (j + 1) * (v - nth l j)
    rw [Int.mul_add, ← Int.mul_assoc, Int.pow_succ, Int.mul_comm (dB ^ j) dB]; omega
theorem Dg.set {l : List Int} (h : Dg l) (j : Nat) {v : Int} (hv : 0 ≤ v ∧ v < dB) : Dg (l.set j v) := fun d hd => by
  rcases List.mem_or_eq_of_mem_set hd with hd | rfl
  · exact h d hd
  · exact hv
theorem valD_zero (n : Nat) : valD (List.replicate n 0) = 0 := by
  induction n with
  | zero => rfl
  | succ n ih => rw [List.replicate_succ, valD, ih]; rfl
end Go.Proofs.YtmomoeagnkjbiaaGreat
/- The reference's digits: Trim, Order. -/
namespace Go.Proofs.YtmomoeagnkjbiaaGreat
open Go.RowKit

theorem trim_take {l : List Int} {n : Nat} (h : n < l.length) : trimD (l.take (n + 1)) = if nth l n = 0 then trimD (l.take n) else l.take (n + 1) := by
  rw [take_snoc h, trim_snoc]
theorem sl_take {w : World} {b cap n : Nat} {l : List Int} (k c : Nat) (h : Sl w (.slice (some ⟨b, 0, none⟩) n cap) l) (hk : k ≤ l.length) (hc : k ≤ c ∧ c ≤ 9223372036854775807) : Sl w (.slice (some ⟨b, 0, none⟩) k c) (l.take k) := by
  have := sl_cut (f := 0) (k := k) h (by omega) hc
  rwa [List.drop_zero, Nat.add_zero] at this
set_option maxHeartbeats 2000000 in
set_option maxRecDepth 100000 in
theorem dg_Trim (v : Value) (l : List Int) (w : World) (base : Nat) (ho : Ow w base v l) (hn : l.length ≤ 1000000) :
    Calls Tryz.prog 170 #[v] w (RwO w (trimD l)) := by
  have HS := Lib.hid ho.sl
  have HO := Lib.hid ho
  by_cases h0 : l.length = 0
  · obtain rfl : l = [] := List.length_eq_zero_iff.1 h0
    rw [trim_nil]
    rcases ho.1.2 with ⟨rfl, hz⟩ | ⟨g, cap, cur, rfl, h1, h2, h3, h4, h5⟩
    · clear ho HO h0
      refine lay_start ?_
      go_enter Tryz.func170, Tryz.ntmps170
      go_wp2_with fail
      go_loopw [3] (fun v3 wr => v3 = .int .i64 0 ∧ ∃ dd : Ext, wr = lay w [.inr dd]) (fun v3 _ => (intOf v3).toNat)
      case atStart => exact ⟨rfl, noExt _, (bw_noExt _).symm⟩
      case round =>
        obtain ⟨rfl, dd, rfl⟩ := hrel
        go_wp2_with (at_builtin; refine push_sl rfl _ _ rfl (lay w [.inr dd]) _ _ _ _ _ _ [] ?_ (ow_empty (L := [.inr dd])) (HS.out.lay _) (fun _ => rfl) rfl rfl (by simp) ?_; exact lay_below (A := [_]); intro v' d' hv')
        go_ret
        obtain ⟨d3, e3⟩ : ∃ x, lay w [.inr d', .inr dd] = lay w [.inr x] := ⟨_, bw_bw _ _ _⟩
        rw [lay_bw, e3] at hv'
        exact ⟨_, d3, rfl, e3, hv'.le (lay_below (w := w) (A := [.inr dd]) (B := [])).size⟩
    · clear ho HO h0 h1 h2 h3 h4 h5
      refine lay_start ?_
      go_enter Tryz.func170, Tryz.ntmps170
      go_wp2_with fail
      go_loopw [3] (fun v3 wr => v3 = .int .i64 0 ∧ ∃ dd : Ext, wr = lay w [.inr dd]) (fun v3 _ => (intOf v3).toNat)
      case atStart => exact ⟨rfl, noExt _, (bw_noExt _).symm⟩
      case round =>
        obtain ⟨rfl, dd, rfl⟩ := hrel
        go_wp2_with (at_builtin; refine push_sl rfl _ _ rfl (lay w [.inr dd]) _ _ _ _ _ _ [] ?_ (ow_empty (L := [.inr dd])) (HS.out.lay _) (fun h => by cases h) rfl rfl (by simp) ?_; exact lay_below (A := [_]); intro v' d' hv')
        go_ret
        obtain ⟨d3, e3⟩ : ∃ x, lay w [.inr d', .inr dd] = lay w [.inr x] := ⟨_, bw_bw _ _ _⟩
        rw [lay_bw, e3] at hv'
        exact ⟨_, d3, rfl, e3, hv'.le (lay_below (w := w) (A := [.inr dd]) (B := [])).size⟩
  · obtain ⟨g, cap, rfl, hg1, hg2, hcap⟩ := ho.form1 (by omega)
    have HC := Lib.hid (fun j (hj : j < l.length) => ho.cell (i := j) hj)
    obtain ⟨m, hm⟩ : ∃ m, l.length = m := ⟨_, rfl⟩
    rw [hm] at HS HO HC hcap h0 hn ⊢
    have HM := Lib.hid hm
    obtain ⟨T, hT⟩ : ∃ T, trimD l = T := ⟨_, rfl⟩
    rw [hT]
    have HT := Lib.hid hT
    clear hm hT ho
    refine lay_start ?_
    go_enter Tryz.func170, Tryz.ntmps170
    go_wp2_with fail
    go_loopw [3] (fun v3 wr => ∃ (n : Nat) (dd : Ext), n ≤ m ∧ v3 = .int .i64 (n : Int) ∧ wr = lay w [.inr dd] ∧ trimD (l.take n) = T) (fun v3 _ => (intOf v3).toNat)
    case atStart => exact ⟨m, noExt _, Nat.le_refl _, rfl, (bw_noExt _).symm, by rw [← HM.out, List.take_length]; exact HT.out⟩
    case round =>
      obtain ⟨n, dd, hnm, rfl, rfl, hI⟩ := hrel
      have HI := Lib.hid hI
      clear hI
      by_cases hn0 : n = 0
      · subst hn0
        have HR : Hid (T = []) := Lib.hid (by rw [← HI.out, List.take_zero]; rfl)
        have HL := Lib.hid (sl_none (w := lay w [.inl (.cells #[] 3 (0, 0)), .inr dd]) (a := some ⟨g, 0, none⟩) (c := cap) (by omega))
        go_wp2_with (at_builtin; refine push_sl rfl _ _ rfl (lay w [.inr dd]) _ _ _ _ _ _ [] ?_ (ow_empty (L := [.inr dd])) HL.out (fun h => by cases h) rfl rfl (by simp) ?_; exact lay_below (A := [_]); intro v' d' hv')
        go_ret
        obtain ⟨d3, e3⟩ : ∃ x, lay w [.inr d', .inr dd] = lay w [.inr x] := ⟨_, bw_bw _ _ _⟩
        exact ⟨_, d3, rfl, e3, by rw [HR.out]; rw [lay_bw, e3] at hv'; exact hv'.le (lay_below (w := w) (A := [.inr dd]) (B := [])).size⟩
      · obtain ⟨j, hj⟩ : ∃ j, n = j + 1 := ⟨n - 1, by omega⟩
        subst hj
        have e0 := HC.out j (by omega)
        have x1 : (0 : Int) < ((j + 1 : Nat) : Int) := by omega
        have x2 : decide ((0 : Int) < ((j + 1 : Nat) : Int)) = true := decide_eq_true x1
        have x3 : ((j + 1 : Nat) : Int) - 1 = (j : Int) := by omega
        have x4 : (j : Int) < (m : Int) := by omega
        have x5 : IntKind.i64.wrap (j : Int) = (j : Int) := IntWalk.i64_in _ (by omega)
        have HTt := Lib.hid (trim_take (l := l) (n := j) (by rw [HM.out]; omega))
        generalize nth l j = Q at *
        obtain ⟨J, hJ⟩ : ∃ J : Int, ((j + 1 : Nat) : Int) = J := ⟨_, rfl⟩
        rw [hJ] at x1 x2 x3 ⊢
        by_cases hz : Q = 0
        · have z1 : (Q == 0) = true := beq_iff_eq.2 hz
          have HN : Hid (trimD (l.take j) = T) := Lib.hid (by have := HTt.out; rw [if_pos hz] at this; rw [← this]; exact HI.out)
          go_wp2_with fail
          go_roundw
          case rel => exact ⟨j, dd, by omega, rfl, rfl, HN.out⟩
          case measure => simp [intOf]; omega
        · have z1 : (Q == 0) = false := beq_eq_false_iff_ne.2 hz
          have HR : Hid (T = l.take (j + 1)) := Lib.hid (by have := HTt.out; rw [if_neg hz] at this; rw [← this]; exact HI.out.symm)
          have hJ2 : J.toNat = j + 1 := by omega
          have x6 : 0 ≤ J := by omega
          have x7 : J ≤ (cap : Int) := by omega
          have x8 : ¬ (cap : Int) < J := by omega
          have HL := Lib.hid (fun L c (hc : j + 1 ≤ c ∧ c ≤ 9223372036854775807) => sl_take (j + 1) c (HS.out.lay L) (by rw [HM.out]; omega) hc)
          go_wp2_with (at_builtin; refine push_sl rfl _ _ rfl (lay w [.inr dd]) _ _ _ _ _ _ (l.take (j + 1)) ?_ (ow_empty (L := [.inr dd])) (HL.out _ _ (by omega)) (fun h => by cases h) rfl rfl (by rw [List.length_take]; simp; omega) ?_; exact lay_below (A := [_]); intro v' d' hv')
          go_ret
          obtain ⟨d3, e3⟩ : ∃ x, lay w [.inr d', .inr dd] = lay w [.inr x] := ⟨_, bw_bw _ _ _⟩
          exact ⟨_, d3, rfl, e3, by rw [HR.out]; rw [lay_bw, e3] at hv'; exact hv'.le (lay_below (w := w) (A := [.inr dd]) (B := [])).size⟩
theorem drop_none {a : List Int} {n : Nat} (h : a.length ≤ n) : a.drop n = [] := List.drop_eq_nil_of_le h
theorem ord_eq (x : Int) : ordI x x = 0 := by unfold ordI; rw [if_neg (by omega), if_neg (by omega)]
theorem ord_lt {x y : Int} (h : x < y) : ordI x y = -1 := if_pos h
theorem ord_gt {x y : Int} (h : y < x) : ordI x y = 1 := by unfold ordI; rw [if_neg (by omega), if_pos h]
set_option maxHeartbeats 2000000 in
set_option maxRecDepth 100000 in
theorem dg_Order (va vb : Value) (a b : List Int) (w : World) (ha : Sl w va a) (hb : Sl w vb b) (ca : Can a) (cb : Can b) :
    Calls Tryz.prog 144 #[va, vb] w fun e w' => e = .returned (.int .i64 (ordI (valD a) (valD b))) ∧ ∃ d, w' = bw w d := by
  obtain ⟨a1, c1, rfl, hc1, hw1, hx1⟩ := ha
  obtain ⟨a2, c2, rfl, hc2, hw2, hx2⟩ := hb
  have HCA := Lib.hid (And.intro ca cb)
  obtain ⟨m, hm⟩ : ∃ m, a.length = m := ⟨_, rfl⟩
  obtain ⟨q, hq⟩ : ∃ q, b.length = q := ⟨_, rfl⟩
  rw [hm] at hc1 ⊢
  rw [hq] at hc2 ⊢
  by_cases e : m = q
  · subst e
    have t1 : ((m : Int) == (m : Int)) = true := beq_iff_eq.2 rfl
    have t2 : ((m : Int) != (m : Int)) = false := by rw [bne, t1]; rfl
    have HE := Lib.hid (And.intro hm hq)
    obtain ⟨R, hR⟩ : ∃ R, ordI (valD a) (valD b) = R := ⟨_, rfl⟩
    rw [hR]
    have HR := Lib.hid hR
    clear hR
    by_cases hm0 : m = 0
    · subst hm0
      have : R = 0 := by rw [← HR.out, List.length_eq_zero_iff.1 hm, List.length_eq_zero_iff.1 hq]; exact ord_eq _
      subst this
      clear hm hq hx1 hx2
      refine lay_start ?_
      go_enter Tryz.func144, Tryz.ntmps144
      go_wp2_with fail
      go_loopw [5] (fun v5 wr => v5 = .int .i64 (-1) ∧ ∃ dd, wr = lay w [.inr dd]) (fun v5 _ => (intOf v5).toNat)
      case atStart => exact ⟨rfl, noExt _, (bw_noExt _).symm⟩
      case round =>
        obtain ⟨rfl, dd, rfl⟩ := hrel
        go_wp2_with fail
        go_ret
        exact ⟨rfl, lay_ex _ _⟩
    · obtain ⟨b1, o1, rfl, hb1, hcell1⟩ := hx1 (by intro h; rw [h] at hm; simp at hm; omega)
      obtain ⟨b2, o2, rfl, hb2, hcell2⟩ := hx2 (by intro h; rw [h] at hq; simp at hq; omega)
      rw [hm] at hcell1
      rw [hq] at hcell2
      have K1 := Lib.hid hcell1
      have K2 := Lib.hid hcell2
      clear hm hq hcell1 hcell2 hw1 hw2
      obtain ⟨M, hM⟩ : ∃ M : Int, (m : Int) - 1 = M := ⟨_, rfl⟩
      have kM : IntKind.i64.wrap M = M := IntWalk.i64_in _ (by omega)
      refine lay_start ?_
      go_enter Tryz.func144, Tryz.ntmps144
      go_wp2_with fail
      go_loopw [5] (fun v5 wr => ∃ (n : Nat) (N : Int) (dd : Ext), n ≤ m ∧ N = (n : Int) - 1 ∧ v5 = .int .i64 N ∧ wr = lay w [.inr dd] ∧ a.drop n = b.drop n) (fun v5 _ => (intOf v5 + 1).toNat)
      case atStart => exact ⟨m, M, noExt _, Nat.le_refl _, hM.symm, rfl, (bw_noExt _).symm, by rw [drop_none (Nat.le_of_eq HE.out.1), drop_none (Nat.le_of_eq HE.out.2)]⟩
      case round =>
        obtain ⟨n, N, dd, hnm, hN, rfl, rfl, hI⟩ := hrel
        have HI := Lib.hid hI
        clear hI
        by_cases hn0 : n = 0
        · subst hn0
          obtain rfl : N = -1 := by omega
          have : R = 0 := by
            have := HI.out
            rw [List.drop_zero, List.drop_zero] at this
            rw [← HR.out, this]; exact ord_eq _
          subst this
          clear hM kM hN
          go_wp2_with fail
          go_ret
          exact ⟨rfl, lay_ex _ _⟩
        · obtain ⟨j, rfl⟩ : ∃ j, n = j + 1 := ⟨n - 1, by omega⟩
          obtain rfl : N = (j : Int) := by omega
          clear hN hM kM
          have e1 := K1.out j (by omega)
          have e2 := K2.out j (by omega)
          have x1 : (0 : Int) ≤ (j : Int) := by omega
          have x2 : (j : Int) < (m : Int) := by omega
          have HJ : Hid (j < a.length ∧ a.length = b.length) := Lib.hid ⟨by rw [HE.out.1]; omega, by rw [HE.out.1, HE.out.2]⟩
          rcases Int.lt_trichotomy (nth a j) (nth b j) with hlt | heq | hgt
          · have : R = -1 := by rw [← HR.out]; exact ord_lt (ord_diff HCA.out.1.1 HCA.out.2.1 HJ.out.2 HJ.out.1 HI.out hlt)
            subst this
            generalize nth a j = A at *
            generalize nth b j = B at *
            go_wp2_with fail
            refine region_bw (by kernel_rfl) (by kernel_rfl) ?_
            repeat (go_big_quiet_step ((first | fail)))
            refine wpQuiet_nil ?_
            rintro w' ⟨d, rfl⟩
            rw [lay_bw]
            go_wp2_with fail
            go_ret
            exact ⟨rfl, lay_ex _ _⟩
          · have HD := Lib.hid (drop_step HJ.out.2 HJ.out.1 HI.out heq)
            have g1 : ¬ nth a j < nth b j := by omega
            have g2 : ¬ nth b j < nth a j := by omega
            obtain ⟨N2, hN2⟩ : ∃ N2 : Int, (j : Int) - 1 = N2 := ⟨_, rfl⟩
            have kN : IntKind.i64.wrap N2 = N2 := IntWalk.i64_in _ (by omega)
            clear heq
            generalize nth a j = A at *
            generalize nth b j = B at *
            go_wp2_with fail
            refine region_bw (by kernel_rfl) (by kernel_rfl) ?_
            repeat (go_big_quiet_step ((first | fail)))
            refine wpQuiet_nil ?_
            rintro w' ⟨r1, rfl⟩
            rw [lay_bw]
            go_wp2_with fail
            refine region_bw (by kernel_rfl) (by kernel_rfl) ?_
            repeat (go_big_quiet_step ((first | fail)))
            refine wpQuiet_nil ?_
            rintro w' ⟨r2, rfl⟩
            rw [lay_bw]
            obtain ⟨d3, e3⟩ : ∃ x, lay w [.inr r2, .inr r1, .inr dd] = lay w [.inr x] := by
              obtain ⟨y, hy⟩ := lay_ex w [.inr r2, .inr r1, .inr dd]
              exact ⟨y, hy⟩
            rw [e3]
            clear e3
            go_wp2_with fail
            go_roundw
            case rel => exact ⟨j, N2, d3, by omega, hN2.symm, rfl, rfl, HD.out⟩
            case measure => simp [intOf]; omega
          · have : R = 1 := by rw [← HR.out]; exact ord_gt (ord_diff HCA.out.2.1 HCA.out.1.1 HJ.out.2.symm (by rw [← HJ.out.2]; exact HJ.out.1) HI.out.symm hgt)
            subst this
            have g1 : ¬ nth a j < nth b j := by omega
            generalize nth a j = A at *
            generalize nth b j = B at *
            go_wp2_with fail
            refine region_bw (by kernel_rfl) (by kernel_rfl) ?_
            repeat (go_big_quiet_step ((first | fail)))
            refine wpQuiet_nil ?_
            rintro w' ⟨d, rfl⟩
            rw [lay_bw]
            go_wp2_with fail
            refine region_bw (by kernel_rfl) (by kernel_rfl) ?_
            repeat (go_big_quiet_step ((first | fail)))
            refine wpQuiet_nil ?_
            rintro w' ⟨d, rfl⟩
            rw [lay_bw]
            go_wp2_with fail
            go_ret
            exact ⟨rfl, lay_ex _ _⟩
  · have t1 : ((m : Int) == (q : Int)) = false := beq_eq_false_iff_ne.2 (by omega)
    have t2 : ((m : Int) != (q : Int)) = true := by rw [bne, t1]; rfl
    by_cases hlt : m < q
    · rw [ord_lt (HCA.out.2.short HCA.out.1.1 (by omega))]
      have x1 : (m : Int) < (q : Int) := by omega
      clear hm hq hx1 hx2
      refine lay_start ?_
      go_enter Tryz.func144, Tryz.ntmps144
      go_wp2_with fail
      go_ret
      exact ⟨rfl, lay_ex _ _⟩
    · rw [ord_gt (HCA.out.1.short HCA.out.2.1 (by omega))]
      have x1 : ¬ (m : Int) < (q : Int) := by omega
      clear hm hq hx1 hx2
      refine lay_start ?_
      go_enter Tryz.func144, Tryz.ntmps144
      go_wp2_with fail
      go_ret
      exact ⟨rfl, lay_ex _ _⟩
end Go.Proofs.YtmomoeagnkjbiaaGreat
/- Digits: product and quotient, step by step. The plain law. No function of the program. -/
namespace Go.Proofs.YtmomoeagnkjbiaaGreat

/-- The row of digit i of a product, k digits of it. -/
structure TmI (a b : List Int) (i k : Nat) (out : List Int) (c : Int) : Prop where
  len : out.length = a.length + b.length
  dg : Dg out
  c0 : 0 ≤ c
  c1 : c < dB
  val : valD out + dB ^ (i + k) * c = valD (a.take i) * valD b + dB ^ i * (nth a i * valD (b.take k))
  zero : ∀ j, i + b.length ≤ j → nth out j = 0
/-- Rows 0 to i - 1 are done. -/
structure TmO (a b : List Int) (i : Nat) (out : List Int) : Prop where
  len : out.length = a.length + b.length
  dg : Dg out
  val : valD out = valD (a.take i) * valD b
  zero : ∀ j, i + b.length ≤ j → nth out j = 0
theorem nth_repl (n j : Nat) : nth (List.replicate n 0) j = 0 := by
  by_cases h : j < n
  · rw [nth_in (by rw [List.length_replicate]; exact h), List.getElem_replicate]
  · exact nth_out (by rw [List.length_replicate]; omega)
theorem TmO.start (a b : List Int) : TmO a b 0 (List.replicate (a.length + b.length) 0) :=
  ⟨List.length_replicate, fun d hd => by rw [List.eq_of_mem_replicate hd]; exact ⟨Int.le_refl _, dB_pos⟩, by rw [valD_zero]; simp [valD], fun j _ => nth_repl _ j⟩
theorem TmO.row {a b : List Int} {i : Nat} {out : List Int} (h : TmO a b i out) : TmI a b i 0 out 0 :=
  ⟨h.len, h.dg, Int.le_refl _, dB_pos, by rw [h.val]; simp [valD], h.zero⟩
theorem TmI.step {a b : List Int} {i k : Nat} {out : List Int} {c d : Int} (ha : Dg a) (hb : Dg b) (h : TmI a b i k out c) (hi : i < a.length) (hk : k < b.length) (hd : d = nth out (i + k) + nth a i * nth b k + c) :
    0 ≤ d ∧ d < dB * dB ∧ TmI a b i (k + 1) (out.set (i + k) (d % dB)) (d / dB) := by
  obtain ⟨a0, a1⟩ := ha.nth i
  obtain ⟨b0, b1⟩ := hb.nth k
  obtain ⟨o0, o1⟩ := h.dg.nth (i + k)
  have hc0 := h.c0
  have hc1 := h.c1
  have hp := dB_pos
  have q0 : 0 ≤ nth a i * nth b k := Int.mul_nonneg a0 b0
  have q1 : nth a i * nth b k ≤ (dB - 1) * (dB - 1) := Int.le_trans (Int.mul_le_mul_of_nonneg_right (by omega) b0) (Int.mul_le_mul_of_nonneg_left (by omega) (by omega))
  have q2 : (dB - 1) * (dB - 1) = dB * dB - 2 * dB + 1 := by decide
  have d0 : 0 ≤ d := by omega
  have d1 : d < dB * dB := by omega
  have m0 : 0 ≤ d % dB := Int.emod_nonneg _ (by omega)
  have m1 : d % dB < dB := Int.emod_lt_of_pos _ hp
  have e1 : d = dB * (d / dB) + d % dB := (Int.mul_ediv_add_emod d dB).symm
  refine ⟨d0, d1, by rw [List.length_set]; exact h.len, h.dg.set _ ⟨m0, m1⟩, Int.ediv_nonneg d0 (by omega), Int.ediv_lt_of_lt_mul hp d1, ?_, fun j hj => ?_⟩
  · rw [valD_set (by rw [h.len]; omega), valD_take]
    have hv := h.val
    have e2 : dB ^ (i + (k + 1)) * (d / dB) = dB ^ (i + k) * (dB * (d / dB)) := by rw [← Nat.add_assoc, Int.pow_succ, Int.mul_assoc]
    have e3 : dB ^ (i + k) * (d % dB - nth out (i + k)) + dB ^ (i + k) * (dB * (d / dB)) = dB ^ (i + k) * (nth a i * nth b k) + dB ^ (i + k) * c := by
      rw [← Int.mul_add, ← Int.mul_add]; congr 1; omega
    have e4 : dB ^ i * (nth a i * (valD (b.take k) + dB ^ k * nth b k)) = dB ^ i * (nth a i * valD (b.take k)) + dB ^ (i + k) * (nth a i * nth b k) := by
      rw [Int.mul_add, Int.mul_add, Int.mul_left_comm (nth a i), ← Int.mul_assoc (dB ^ i) (dB ^ k), ← Int.pow_add]
    rw [e2, e4]; omega
  · have hj2 : i + k ≠ j := by omega
    rw [nth_set _ _ _ (by rw [h.len]; omega), if_neg (Ne.symm hj2)]
    exact h.zero j hj
theorem TmI.done {a b : List Int} {i k : Nat} {out : List Int} {c : Int} (h : TmI a b i k out c) (hi : i < a.length) (hk : k = b.length) : TmO a b (i + 1) (out.set (i + b.length) c) := by
  subst hk
  have hz := h.zero (i + b.length) (Nat.le_refl _)
  refine ⟨by rw [List.length_set]; exact h.len, h.dg.set _ ⟨h.c0, h.c1⟩, ?_, fun j hj => ?_⟩
  · have hv := h.val
    rw [valD_set (by rw [h.len]; omega), hz, Int.sub_zero, hv, List.take_of_length_le (l := b) (Nat.le_refl _), valD_take, Int.add_mul, Int.mul_assoc]
  · rw [nth_set _ _ _ (by rw [h.len]; omega), if_neg (by omega)]
    exact h.zero j (by omega)
theorem TmO.done {a b : List Int} {i : Nat} {out : List Int} (h : TmO a b i out) (hi : i = a.length) : Dg out ∧ valD out = valD a * valD b := by
  subst hi
  have := h.val
  rw [List.take_of_length_le (l := a) (Nat.le_refl _)] at this
  exact ⟨h.dg, this⟩
/-- The quotient from digit i on; the rest. -/
structure OvI (a b : List Int) (i : Nat) (out rest : List Int) : Prop where
  len : out.length = a.length
  dg : Dg out
  can : Can rest
  val : valD (a.drop i) = valD (out.drop i) * valD b + valD rest
  lt : valD rest < valD b
theorem OvI.start {a b : List Int} (hb : 0 < valD b) : OvI a b a.length (List.replicate a.length 0) [] :=
  ⟨List.length_replicate, fun d hd => by rw [List.eq_of_mem_replicate hd]; exact ⟨Int.le_refl _, dB_pos⟩, Can.nil, by rw [List.drop_of_length_le (Nat.le_refl _), List.drop_of_length_le (by rw [List.length_replicate]; exact Nat.le_refl _)]; simp [valD], hb⟩
/-- The digit m is the greatest whose product is at most the rest r (with the next digit of a brought down). -/
theorem OvI.step {a b : List Int} {i : Nat} {out rest r2 : List Int} {m r : Int} (h : OvI a b (i + 1) out rest) (hi : i < a.length) (hr : r = nth a i + dB * valD rest) (hm : 0 ≤ m ∧ m < dB) (h2 : r < valD b * (m + 1)) (hr2 : Can r2) (hv : valD r2 = r - valD b * m) :
    OvI a b i (out.set i m) r2 := by
  have hl : i < out.length := by rw [h.len]; exact hi
  refine ⟨by rw [List.length_set]; exact h.len, h.dg.set _ hm, hr2, ?_, by rw [hv]; rw [Int.mul_add, Int.mul_one] at h2; omega⟩
  have e1 : (out.set i m).drop i = m :: out.drop (i + 1) := by
    rw [List.drop_eq_getElem_cons (by rw [List.length_set]; exact hl), List.getElem_set_self, List.drop_set_of_lt (by omega)]
  rw [List.drop_eq_getElem_cons hi, e1, valD, valD, h.val, hv, hr, ← nth_in hi, Int.add_mul, Int.mul_add, Int.mul_assoc, Int.mul_comm m]
  omega
/-- Bringing down keeps the rest below the base times the divisor: so the digit exists. -/
theorem OvI.room {a b : List Int} {i : Nat} {out rest : List Int} (ha : Dg a) (h : OvI a b (i + 1) out rest) : nth a i + dB * valD rest < valD b * dB := by
  have h1 := (ha.nth i).2
  have h2 := Int.mul_le_mul_of_nonneg_left (show valD rest + 1 ≤ valD b from h.lt) (Int.le_of_lt dB_pos)
  rw [Int.mul_add, Int.mul_one] at h2
  rw [Int.mul_comm (valD b)]
  omega
theorem OvI.done {a b : List Int} {out rest : List Int} (h : OvI a b 0 out rest) (hr0 : 0 ≤ valD rest) : valD out = valD a / valD b ∧ valD rest = valD a % valD b := by
  have hv := h.val
  rw [List.drop_zero, List.drop_zero] at hv
  have hb : 0 < valD b := by have := h.lt; omega
  have h1 : valD a / valD b = valD out := by
    rw [hv, Int.add_comm, Int.add_mul_ediv_right _ _ (by omega), Int.ediv_eq_zero_of_lt hr0 h.lt, Int.zero_add]
  have h2 := Int.mul_ediv_add_emod (valD a) (valD b)
  rw [h1, Int.mul_comm] at h2
  exact ⟨h1.symm, by omega⟩
end Go.Proofs.YtmomoeagnkjbiaaGreat

/- Rounded exact values are possible lists: the plain law of AuditSilent. No program in sight. -/
import Derived.Test.YtgpgfmemnhgmbaaProg
import Derived.Test.YtgpgfmemnhgmbaaLay
import Derived.Test.YtgpgfmemnhgmbaaRegion
import Derived.Test.YtgpgfmemnhgmbaaMix
import Derived.WalkKit
import Derived.WalkSpells
import Derived.WalkLawsBesides
import Derived.Lib.Hide
import Derived.BigQuiet
import Derived.Test.YtgpgfmemnhgmbaaPlain
import Derived.Test.YtgpgfmemnhgmbaaMnd
namespace Go.Proofs.Ytgpgfmemnhgmbaa
open Go.RowKit

def slp (s : Int) (l : List Int) : Nat → Int
  | 0 => s
  | i + 1 => slp s l i + nth l i
def xvl (x s : Int) (l : List Int) : Nat → Int
  | 0 => x
  | i + 1 => xvl x s l i + slp s l i
def rnd (n : Int) : Int := (n + 32) / 64
def rndF (wr : Bool) (x s : Int) (l : List Int) (i : Nat) : Int := frm wr (rnd (xvl x s l i))
def rndL (wr : Bool) (x s : Int) (l : List Int) (k : Nat) : List Int := (List.range k).map (rndF wr x s l)
theorem rndL_step (wr : Bool) (x s : Int) (l : List Int) (k : Nat) : rndL wr x s l (k + 1) = rndL wr x s l k ++ [rndF wr x s l k] := by simp [rndL, List.range_succ]
theorem rndL_len (wr : Bool) (x s : Int) (l : List Int) (k : Nat) : (rndL wr x s l k).length = k := by simp [rndL]
theorem nth_map_range (f : Nat → Int) {k i : Nat} (h : i < k) : nth ((List.range k).map f) i = f i := by simp [nth, List.getD, h]
theorem nth_rndL {wr : Bool} {x s : Int} {l : List Int} {k i : Nat} (h : i < k) : nth (rndL wr x s l k) i = rndF wr x s l i := nth_map_range _ h
theorem nth_off {l : List Int} {i : Nat} (h : l.length ≤ i) : nth l i = 0 := by simp [nth, List.getD, h]
theorem slp_bd {s : Int} {l : List Int} (hs : -2147483648 ≤ s ∧ s ≤ 2147483647) (hl : ∀ i, -64000 ≤ nth l i ∧ nth l i ≤ 64000) : ∀ i : Nat, -2147483648 - 64000 * (i : Int) ≤ slp s l i ∧ slp s l i ≤ 2147483647 + 64000 * (i : Int)
  | 0 => by unfold slp; omega
  | i + 1 => by
    have := slp_bd hs hl i
    have := hl i
    unfold slp; omega
theorem xvl_bd {x s : Int} {l : List Int} (hx : -2147483648 ≤ x ∧ x ≤ 2147483647) (hs : -2147483648 ≤ s ∧ s ≤ 2147483647) (hl : ∀ i, -64000 ≤ nth l i ∧ nth l i ≤ 64000) :
    ∀ i : Nat, i ≤ 41 → -2147483648 - 3000000000 * (i : Int) ≤ xvl x s l i ∧ xvl x s l i ≤ 2147483647 + 3000000000 * (i : Int)
  | 0, _ => by unfold xvl; omega
  | i + 1, h => by
    have := xvl_bd hx hs hl i (by omega)
    have := slp_bd hs hl i
    unfold xvl; omega
theorem rnd_stp {wr : Bool} {x s : Int} {l : List Int} {k i : Nat} (hi : i + 1 < k) (hw : wr = true → 128 ≤ slp s l i ∧ slp s l i ≤ 13823872) :
    stp wr (rndL wr x s l k) i = rnd (xvl x s l (i + 1)) - rnd (xvl x s l i) := by
  unfold stp
  rw [nth_rndL hi, nth_rndL (by omega)]
  unfold rndF frm
  cases wr
  · rfl
  · have h1 := hw rfl
    have h2 : xvl x s l (i + 1) = xvl x s l i + slp s l i := rfl
    simp only [if_true]
    rw [h2]
    generalize xvl x s l i = X at *
    generalize slp s l i = S at *
    unfold rnd
    omega
theorem rnd_poss {wr : Bool} {x s : Int} {l : List Int} {b : Int} (hb : ∀ i, i < l.length → -(64 * b) ≤ nth l i ∧ nth l i ≤ 64 * b)
    (hw : wr = true → ∀ i, i ≤ l.length → 128 ≤ slp s l i ∧ slp s l i ≤ 13823872) : Poss wr (rndL wr x s l (l.length + 2)) b := by
  intro i h1 h2
  rw [rndL_len] at h2
  obtain ⟨j, rfl⟩ : ∃ j, i = j + 1 := ⟨i - 1, by omega⟩
  unfold sec
  rw [show j + 1 - 1 = j by omega, rnd_stp (by omega) (fun h => hw h _ (by omega)), rnd_stp (by omega) (fun h => hw h _ (by omega))]
  have h3 : xvl x s l (j + 1 + 1) = xvl x s l (j + 1) + slp s l (j + 1) := rfl
  have h4 : xvl x s l (j + 1) = xvl x s l j + slp s l j := rfl
  have h5 : slp s l (j + 1) = slp s l j + nth l j := rfl
  have h6 := hb j (by omega)
  rw [h3, h4, h5]
  generalize xvl x s l j = X at *
  generalize slp s l j = S at *
  generalize nth l j = K at *
  unfold rnd
  omega
def ksL (m : Int) (l : List Int) (k : Nat) : List Int := (List.range k).map fun i => (nth l i).tmod m
theorem ksL_step (m : Int) (l : List Int) (k : Nat) : ksL m l (k + 1) = ksL m l k ++ [(nth l k).tmod m] := by simp [ksL, List.range_succ]
theorem ksL_len (m : Int) (l : List Int) (k : Nat) : (ksL m l k).length = k := by simp [ksL]
theorem nth_ksL {m : Int} {l : List Int} {k i : Nat} (h : i < k) : nth (ksL m l k) i = (nth l i).tmod m := nth_map_range _ h
/-- The sum of the first differences, so far. -/
def nowS (s m : Int) (l : List Int) : Nat → Int
  | 0 => s
  | i + 1 => nowS s m l i + (nth l i).tmod m
theorem now_slp (s m : Int) (l : List Int) (k : Nat) : ∀ i, i ≤ k → slp s (ksL m l k) i = nowS s m l i
  | 0, _ => rfl
  | i + 1, h => by
    unfold slp nowS
    rw [now_slp s m l k i (by omega), nth_ksL (by omega)]
def leaS (s m : Int) (l : List Int) : Nat → Int
  | 0 => s
  | i + 1 => mn (leaS s m l i) (nowS s m l (i + 1))
def mosS (s m : Int) (l : List Int) : Nat → Int
  | 0 => s
  | i + 1 => mx (mosS s m l i) (nowS s m l (i + 1))
theorem lea_le (s m : Int) (l : List Int) : ∀ k i, i ≤ k → leaS s m l k ≤ nowS s m l i ∧ nowS s m l i ≤ mosS s m l k
  | 0, i, h => by obtain rfl : i = 0 := by omega
                  exact ⟨Int.le_refl _, Int.le_refl _⟩
  | k + 1, i, h => by
    have e1 : leaS s m l (k + 1) = mn (leaS s m l k) (nowS s m l (k + 1)) := rfl
    have e2 : mosS s m l (k + 1) = mx (mosS s m l k) (nowS s m l (k + 1)) := rfl
    rw [e1, e2]
    by_cases hi : i = k + 1
    · subst hi
      unfold mn mx
      constructor <;> split <;> omega
    · have := lea_le s m l k i (by omega)
      unfold mn mx
      constructor <;> split <;> omega
theorem now_bd {s m : Int} {l : List Int} (hs : -2147483648 ≤ s ∧ s ≤ 2147483647) (hm : 1 ≤ m ∧ m ≤ 64001) : ∀ i : Nat, -2147483648 - 64001 * (i : Int) ≤ nowS s m l i ∧ nowS s m l i ≤ 2147483647 + 64001 * (i : Int)
  | 0 => by unfold nowS; omega
  | i + 1 => by
    have := now_bd (l := l) hs hm i
    have := tmod_bd (nth l i) m hm.1
    unfold nowS; omega
/-- The law: the rounded list is possible. -/
theorem silent_poss {wr : Bool} {x s b : Int} {l : List Int} (hb : 0 ≤ b) (hw : wr = true → 128 ≤ leaS s (64 * b + 1) l l.length ∧ mosS s (64 * b + 1) l l.length ≤ 13823872) :
    Poss wr (rndL wr x s (ksL (64 * b + 1) l l.length) (l.length + 2)) b := by
  have := rnd_poss (wr := wr) (x := x) (s := s) (l := ksL (64 * b + 1) l l.length) (b := b) (fun i hi => by
    rw [ksL_len] at hi
    rw [nth_ksL hi]
    have := tmod_bd (nth l i) (64 * b + 1) (by omega)
    omega) (fun h i hi => by
    rw [ksL_len] at hi
    rw [now_slp s _ l _ i hi]
    have h1 := hw h
    have h2 := lea_le s (64 * b + 1) l l.length i hi
    omega)
  rw [ksL_len] at this
  exact this
end Go.Proofs.Ytgpgfmemnhgmbaa

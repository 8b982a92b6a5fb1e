/- IncrementsTrue, the plain law: the values of rounded data contain the exact ones. No program in sight. -/
import Derived.Test.YtknammeehedbdaaSub
namespace Go.Proofs.Ytknammeehedbdaa
open Go.RowKit

/-- The exact hour angles and declinations. -/
def ghX (start : Int) (s : Nat → Int) : Nat → Int
  | 0 => start
  | k + 1 => ghX start s k + 840000 + s k + 32768
def deX (dec : Int) (s : Nat → Int) : Nat → Int
  | 0 => dec
  | k + 1 => deX dec s k + s k
def rnd (n : Int) : Int := (n + 50) / 100
def ghD (start : Int) (s : Nat → Int) (k : Nat) : Int := rnd (ghX start s k % 21600000) % 216000
def deD (dec : Int) (s : Nat → Int) (k : Nat) : Int := rnd (deX dec s k)
def rr (start : Int) (s : Nat → Int) (k : Nat) : Int := 100 * rnd (ghX start s k % 21600000) - ghX start s k % 21600000
theorem rr_bd (start : Int) (s : Nat → Int) (k : Nat) : -49 ≤ rr start s k ∧ rr start s k ≤ 50 := by unfold rr rnd; omega
theorem ghX_bd {start : Int} {s : Nat → Int} (h0 : 0 ≤ start) (h1 : start < 21600000) (hs : ∀ k, -32768 ≤ s k ∧ s k ≤ 32767) : ∀ k : Nat, 0 ≤ ghX start s k ∧ ghX start s k ≤ 21600000 + 905535 * k
  | 0 => by simp only [ghX]; omega
  | k + 1 => by have := ghX_bd h0 h1 hs k; have := hs k; simp only [ghX]; omega
theorem deX_bd {dec : Int} {s : Nat → Int} (h0 : -2400000 ≤ dec) (h1 : dec ≤ 2400000) (hs : ∀ k, -32768 ≤ s k ∧ s k ≤ 32767) : ∀ k : Nat, -2400000 - 32768 * k ≤ deX dec s k ∧ deX dec s k ≤ 2400000 + 32767 * k
  | 0 => by simp only [deX]; omega
  | k + 1 => by have := deX_bd h0 h1 hs k; have := hs k; simp only [deX]; omega
/-- The unwrapped angle of the data is the exact one, rounded, up to turns. -/
theorem ang_true {g : List Int} {start : Int} {s : Nat → Int} {n : Nat} (hs : ∀ k, -32768 ≤ s k ∧ s k ≤ 32767) (hg : ∀ k, k ≤ n → nth g k = ghD start s k) :
    ∃ c : Int, ∀ k, k ≤ n → ang g k = ghX start s k + rr start s k + c * 21600000 := by
  refine ⟨(ang g 0 - ghX start s 0 - rr start s 0) / 21600000, fun k => ?_⟩
  have h00 : ang g 0 = ghX start s 0 + rr start s 0 + (ang g 0 - ghX start s 0 - rr start s 0) / 21600000 * 21600000 := by
    have e : ang g 0 = 100 * nth g 0 := rfl
    rw [e, hg 0 (Nat.zero_le _)]
    unfold ghD rr
    generalize rnd (ghX start s 0 % 21600000) = R
    omega
  generalize (ang g 0 - ghX start s 0 - rr start s 0) / 21600000 = c at *
  induction k with
  | zero => exact fun _ => h00
  | succ k ih =>
    intro hk
    have h1 := ih (by omega)
    have e : ang g (k + 1) = ang g k + (100 * (nth g (k + 1) - nth g k)) % 21600000 := rfl
    rw [e, h1, hg k (by omega), hg (k + 1) hk]
    have b0 := rr_bd start s k
    have b1 := rr_bd start s (k + 1)
    have e2 : ghX start s (k + 1) = ghX start s k + 840000 + s k + 32768 := rfl
    have := hs k
    unfold ghD rr at *
    generalize rnd (ghX start s k % 21600000) = R0 at *
    generalize rnd (ghX start s (k + 1) % 21600000) = R1 at *
    generalize ghX start s (k + 1) = X1 at *
    generalize ghX start s k = X0 at *
    omega
/-- The exact value at an instant, off being its error, in units of 1/hour. -/
def valX (l : Nat → Int) (ms off : Int) : Int :=
  if ms % 3600000 = 0 then l (ms / 3600000).toNat * 3600000 else l (ms / 3600000).toNat * (3600000 - ms % 3600000) + l ((ms / 3600000).toNat + 1) * (ms % 3600000) + off * 3600000
theorem nhr_self (ms : Int) : nhr ms ms = 0 := by unfold nhr cdiv; omega
theorem hull_self (A : Int → Int × Int) (ms : Int) : hullL (pcs A ms ms) = (insL A ms, insH A ms) := by
  unfold pcs; rw [nhr_self]; simp [hrs, hullL, hull2]
/-- Data within 50 of the exact ones, up to a constant, have a value that contains the exact one. -/
theorem val_in {f l : Nat → Int} {c ms off r : Int} (h0 : 0 ≤ ms) (h1 : ms ≤ 86400000) (hf : ∀ k, k ≤ 24 → f k - 50 ≤ l k + c ∧ l k + c ≤ f k + 50) (ho : -cdiv (100 * r) 8 ≤ off ∧ off ≤ cdiv (100 * r) 8) :
    (ovr (arcA f) ms ms r).1 * 3600000 ≤ valX l ms off + c * 3600000 ∧ valX l ms off + c * 3600000 ≤ (ovr (arcA f) ms ms r).2 * 3600000 := by
  obtain ⟨k, hk⟩ := Int.eq_ofNat_of_zero_le (show 0 ≤ ms / 3600000 by omega)
  unfold ovr valX
  rw [hull_self, hk, Int.toNat_natCast]
  by_cases hr : ms % 3600000 = 0
  · rw [if_pos ⟨rfl, hr⟩, if_pos hr]
    have := hf k (by omega)
    unfold insL insH
    rw [if_pos hr, if_pos hr, hk, arcA_at f k (by omega)]
    dsimp only
    omega
  · rw [if_neg (fun e => hr e.2), if_neg hr]
    have a0 := hf k (by omega)
    have a1 := hf (k + 1) (by omega)
    unfold insL insH
    rw [if_neg hr, if_neg hr, hk, arcA_at f k (by omega), show (k : Int) + 1 = ((k + 1 : Nat) : Int) by omega, arcA_at f (k + 1) (by omega)]
    dsimp only
    have hn : 0 ≤ ms % 3600000 ∧ ms % 3600000 ≤ 3600000 := by omega
    generalize ms % 3600000 = n at *
    have p1 := Int.mul_le_mul_of_nonneg_right a0.1 (show 0 ≤ 3600000 - n by omega)
    have p2 := Int.mul_le_mul_of_nonneg_right a1.1 hn.1
    have p3 := Int.mul_le_mul_of_nonneg_right a0.2 (show 0 ≤ 3600000 - n by omega)
    have p4 := Int.mul_le_mul_of_nonneg_right a1.2 hn.1
    have q : c * (3600000 - n) + c * n = c * 3600000 := by rw [← Int.mul_add]; congr 1; omega
    rw [Int.add_mul] at p1 p2 p3 p4
    unfold linLo linHi cdiv at *
    generalize (f k - 50) * (3600000 - n) = X1 at *
    generalize (f (k + 1) - 50) * n = X2 at *
    generalize (f k + 50) * (3600000 - n) = X3 at *
    generalize (f (k + 1) + 50) * n = X4 at *
    generalize l k * (3600000 - n) = Y1 at *
    generalize l (k + 1) * n = Y2 at *
    generalize c * (3600000 - n) = C1 at *
    generalize c * n = C2 at *
    omega
end Go.Proofs.Ytknammeehedbdaa

/- IncrementsTrue, the plain law's end: the comparisons that the law makes. -/
import Derived.Test.YtknammeehedbdaaTru2
import Derived.Test.YtknammeehedbdaaTw1
import Derived.Test.YtknammeehedbdaaRf7
namespace Go.Proofs.Ytknammeehedbdaa
open Go.RowKit

theorem nthT (f : Nat → Int) (k : Nat) (h : k ≤ 24) : nth ((List.range 25).map f) k = f k := nth_map f k (by omega)
theorem tru_dec {start dec bend ms away : Int} {s : Nat → Int} (d0 : -2400000 ≤ dec) (d1 : dec ≤ 2400000) (b0 : 0 ≤ bend) (b1 : bend ≤ 1000) (a0 : -128 ≤ away) (a1 : away ≤ 127) (hs : ∀ k, -32768 ≤ s k ∧ s k ≤ 32767) (h0 : 0 ≤ ms) (h1 : ms ≤ 86400000) :
    mx (decO (trkT start dec bend s) ms ms).1 (-5400000) * 3600000 ≤ valX (deX dec s) ms (offX away bend) ∧ valX (deX dec s) ms (offX away bend) ≤ mn (decO (trkT start dec bend s) ms ms).2 5400000 * 3600000 := by
  have hv := val_in (f := dcl (trkT start dec bend s).d) (l := deX dec s) (c := 0) (off := offX away bend) (r := bend) h0 h1 (fun k hk => by
    have e : nth (trkT start dec bend s).d k = deD dec s k := nthT _ _ hk
    unfold dcl; rw [e]; unfold deD rnd; omega) (offX_bd a0 a1 b0)
  have hb : -3200000 * 3600000 ≤ valX (deX dec s) ms (offX away bend) ∧ valX (deX dec s) ms (offX away bend) ≤ 3200000 * 3600000 := by
    obtain ⟨k, hk⟩ := Int.eq_ofNat_of_zero_le (show 0 ≤ ms / 3600000 by omega)
    have ho := offX_bd a0 a1 b0
    have hc : cdiv (100 * bend) 8 ≤ 12500 := by unfold cdiv; omega
    have x0 := deX_bd d0 d1 hs k
    have x1 := deX_bd d0 d1 hs (k + 1)
    unfold valX
    rw [hk, Int.toNat_natCast]
    split
    · omega
    · have hn : 0 ≤ ms % 3600000 ∧ ms % 3600000 ≤ 3600000 := by omega
      have hk2 : k ≤ 23 := by omega
      generalize ms % 3600000 = n at *
      generalize deX dec s k = A at *
      generalize deX dec s (k + 1) = B at *
      have p1 := Int.mul_le_mul_of_nonneg_right (show -3186432 ≤ A by omega) (show 0 ≤ 3600000 - n by omega)
      have p2 := Int.mul_le_mul_of_nonneg_right (show A ≤ 3186432 by omega) (show 0 ≤ 3600000 - n by omega)
      have p3 := Int.mul_le_mul_of_nonneg_right (show -3186432 ≤ B by omega) hn.1
      have p4 := Int.mul_le_mul_of_nonneg_right (show B ≤ 3186432 by omega) hn.1
      omega
  rw [Int.zero_mul, Int.add_zero] at hv
  have e : decO (trkT start dec bend s) ms ms = ovr (arcA (dcl (trkT start dec bend s).d)) ms ms bend := rfl
  rw [e]
  generalize ovr (arcA (dcl (trkT start dec bend s).d)) ms ms bend = O at *
  unfold mx mn
  split <;> split <;> omega
def ghaR (x gl : Int) : Int := (x - gl * 3600000).tmod 77760000000000
theorem tru_gha {start dec bend ms away : Int} {s : Nat → Int} (b0 : 0 ≤ bend) (a0 : -128 ≤ away) (a1 : away ≤ 127) (hs : ∀ k, -32768 ≤ s k ∧ s k ≤ 32767) (h0 : 0 ≤ ms) (h1 : ms ≤ 86400000)
    {gl gh X : Int} (hgl : gl = turnLo (ghaO (trkT start dec bend s) ms ms).1 (ghaO (trkT start dec bend s) ms ms).2) (hgh : gh = turnHi (ghaO (trkT start dec bend s) ms ms).1 (ghaO (trkT start dec bend s) ms ms).2) (hX : X = valX (ghX start s) ms (offX away bend)) :
    (0 ≤ ghaR X gl → ghaR X gl ≤ (gh - gl) * 3600000) ∧ (ghaR X gl < 0 → ghaR X gl + 77760000000000 ≤ (gh - gl) * 3600000) := by
  obtain ⟨c, hc⟩ := ang_true (g := (trkT start dec bend s).g) (start := start) (n := 24) hs (fun k hk => nthT _ _ hk)
  have hv := val_in (f := ang (trkT start dec bend s).g) (l := ghX start s) (c := c * 21600000) (off := offX away bend) (r := bend) h0 h1 (fun k hk => by
    have := hc k hk; have := rr_bd start s k; omega) (offX_bd a0 a1 b0)
  have e : ghaO (trkT start dec bend s) ms ms = ovr (arcA (ang (trkT start dec bend s).g)) ms ms bend := rfl
  rw [e] at hgl hgh
  rw [← hX] at hv
  clear hc hX e
  generalize ovr (arcA (ang (trkT start dec bend s).g)) ms ms bend = O at *
  have t0 : ghaR X gl = (X - gl * 3600000) % 77760000000000 ∨ ghaR X gl = (X - gl * 3600000) % 77760000000000 - 77760000000000 := by
    unfold ghaR
    have := Int.tmod_add_mul_tdiv (X - gl * 3600000) 77760000000000
    have t1 := Int.tmod_lt_of_pos (X - gl * 3600000) (show (0 : Int) < 77760000000000 by decide)
    have t2 : -77760000000000 < (X - gl * 3600000).tmod 77760000000000 := Int.lt_tmod_of_pos _ (by decide)
    omega
  unfold turnLo at hgl
  unfold turnHi at hgh
  split at hgl
  · rename_i hh
    rw [if_pos hh] at hgh
    omega
  · rename_i hh
    rw [if_neg hh] at hgh
    omega
theorem gha_bd {start bend ms away : Int} {s : Nat → Int} (s0 : 0 ≤ start) (s1 : start < 21600000) (b0 : 0 ≤ bend) (b1 : bend ≤ 1000) (a0 : -128 ≤ away) (a1 : away ≤ 127) (hs : ∀ k, -32768 ≤ s k ∧ s k ≤ 32767) (h0 : 0 ≤ ms) (h1 : ms ≤ 86400000) :
    -100000000 * 3600000 ≤ valX (ghX start s) ms (offX away bend) ∧ valX (ghX start s) ms (offX away bend) ≤ 100000000 * 3600000 := by
  obtain ⟨k, hk⟩ := Int.eq_ofNat_of_zero_le (show 0 ≤ ms / 3600000 by omega)
  have ho := offX_bd a0 a1 b0
  have hc : cdiv (100 * bend) 8 ≤ 12500 := by unfold cdiv; omega
  have x0 := ghX_bd s0 s1 hs k
  have x1 := ghX_bd s0 s1 hs (k + 1)
  unfold valX
  rw [hk, Int.toNat_natCast]
  split
  · omega
  · have hn : 0 ≤ ms % 3600000 ∧ ms % 3600000 ≤ 3600000 := by omega
    have hk2 : k ≤ 23 := by omega
    generalize ms % 3600000 = n at *
    generalize ghX start s k = A at *
    generalize ghX start s (k + 1) = B at *
    have p1 := Int.mul_le_mul_of_nonneg_right (show 0 ≤ A by omega) (show 0 ≤ 3600000 - n by omega)
    have p2 := Int.mul_le_mul_of_nonneg_right (show A ≤ 50000000 by omega) (show 0 ≤ 3600000 - n by omega)
    have p3 := Int.mul_le_mul_of_nonneg_right (show 0 ≤ B by omega) hn.1
    have p4 := Int.mul_le_mul_of_nonneg_right (show B ≤ 50000000 by omega) hn.1
    omega
theorem turn_bd {x y gl gh : Int} (h : x ≤ y) (hgl : gl = turnLo x y) (hgh : gh = turnHi x y) : 0 ≤ gl ∧ gl ≤ gh ∧ gh ≤ 43200000 := by
  have := turn_rng h
  omega
end Go.Proofs.Ytknammeehedbdaa

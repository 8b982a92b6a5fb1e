/- The track that IncrementsTrue makes: valid. No program in sight. -/
import Derived.Test.YtknammeehedbdaaTru
import Derived.Test.YtknammeehedbdaaPg2
namespace Go.Proofs.Ytknammeehedbdaa
open Go.RowKit

def trkT (start dec bend : Int) (s : Nat → Int) : TrkV := ⟨⟨#[66, 111, 100, 121]⟩, (List.range 25).map (ghD start s), (List.range 25).map (deD dec s), 0, 0, bend⟩
theorem nth_map (f : Nat → Int) (k : Nat) (h : k < 25) : ((List.range 25).map f).getD k 0 = f k := by simp [List.getD, h]
theorem trkT_ok {start dec bend : Int} {s : Nat → Int} (d0 : -2400000 ≤ dec) (d1 : dec ≤ 2400000) (b0 : 0 ≤ bend) (b1 : bend ≤ 1000) (hs : ∀ k, -32768 ≤ s k ∧ s k ≤ 32767) : trkB (trkT start dec bend s) = true := by
  refine trkB_iff.2 ⟨?_, by simp [trkT], by simp [trkT], ?_, ?_, ?_, ?_, ?_⟩
  · show nameB ⟨#[66, 111, 100, 121]⟩ = true
    refine nameB_iff.2 ⟨by decide, by decide, fun i hi => ?_, by decide⟩
    match i, hi with
    | 0, _ => decide
    | 1, _ => decide
    | 2, _ => decide
    | 3, _ => decide
    | i + 4, hi => exact absurd hi (by show ¬ i + 4 < 4; omega)
  · refine inLB_iff.2 fun i hi => ?_
    have hi' : i < 25 := by simpa [trkT] using hi
    have e : (trkT start dec bend s).g.getD i 0 = ghD start s i := nth_map _ _ hi'
    rw [e]; unfold ghD; omega
  · refine inLB_iff.2 fun i hi => ?_
    have hi' : i < 25 := by simpa [trkT] using hi
    have e : (trkT start dec bend s).d.getD i 0 = deD dec s i := nth_map _ _ hi'
    rw [e]
    have := deX_bd d0 d1 hs i
    unfold deD rnd; omega
  · refine inLB_iff.2 fun i hi => ?_
    obtain rfl : i = 0 := by have : i < 1 := hi; omega
    exact ⟨Int.le_refl 0, show (0 : Int) ≤ _ by decide⟩
  · refine inLB_iff.2 fun i hi => ?_
    obtain rfl : i = 0 := by have : i < 1 := hi; omega
    exact ⟨Int.le_refl 0, show (0 : Int) ≤ _ by decide⟩
  · refine inLB_iff.2 fun i hi => ?_
    obtain rfl : i = 0 := by have : i < 1 := hi; omega
    exact ⟨b0, b1⟩
end Go.Proofs.Ytknammeehedbdaa

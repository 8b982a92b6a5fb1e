/- The reference's Repairs are audit's: plain law. -/
import Derived.Test.YtgpgfmemnhgmbaaRe6
namespace Go.Proofs.Ytgpgfmemnhgmbaa
open Go.RowKit

theorem badN_of_L {wr : Bool} {l : List Int} {bend : Int} {lo hi : Nat} : (badL wr l bend lo hi).isEmpty = true ↔ ∀ i, lo ≤ i → i < hi → -(bend + 2) ≤ sec wr l i ∧ sec wr l i ≤ bend + 2 := by
  unfold badL
  rw [List.isEmpty_iff, List.map_eq_nil_iff, badN_nil]
  exact ⟨fun h i h1 h2 => badB_f.1 (h i h1 h2), fun h i h1 h2 => badB_f.2 (h i h1 h2)⟩
theorem fit_iff {wr : Bool} {l : List Int} {bend : Int} {at_ : Nat} {x : Int} : fitB wr l bend at_ x = true ↔ ∀ i, loA at_ ≤ i → i < hiA at_ l.length → -(bend + 2) ≤ sec wr (l.set at_ x) i ∧ sec wr (l.set at_ x) i ≤ bend + 2 := badN_of_L
theorem near_set {l : List Int} {at_ i : Nat} {x : Int} (ha : at_ < l.length) (hi : i < (nearL l at_).length) : nth ((nearL l at_).set (nearK at_) x) i = nth (l.set at_ x) (nearLo at_ + i) := by
  by_cases hk : nearK at_ < (nearL l at_).length
  · rw [nth_set _ _ _ hk, nth_set _ _ _ ha]
    have h := near_nth hi
    by_cases e : i = nearK at_
    · rw [if_pos e, if_pos (by subst e; unfold nearK nearLo; omega)]
    · rw [if_neg e, if_neg (by unfold nearK nearLo at *; omega), h.1]
  · unfold nearK nearL nearLo nearHi at hk
    rw [List.length_take, List.length_drop] at hk
    omega
theorem good_fit {wr : Bool} {l : List Int} {bend : Int} {at_ : Nat} {x : Int} (h3 : 3 ≤ l.length) (ha : at_ < l.length) : goodB wr l bend at_ x = true ↔ fitB wr l bend at_ x = true := by
  rw [fit_iff]
  unfold goodB
  rw [badN_of_L]
  have hl : (nearL l at_).length = nearHi at_ l.length - nearLo at_ := by unfold nearL nearHi nearLo; rw [List.length_take, List.length_drop]; omega
  have key : ∀ i, 1 ≤ i → i < (nearL l at_).length - 1 → sec wr ((nearL l at_).set (nearK at_) x) i = sec wr (l.set at_ x) (nearLo at_ + i) := fun i h1 h2 => by
    unfold sec stp
    rw [near_set ha (by omega), near_set ha (by omega), near_set ha (by omega), near_set ha (by omega)]
    rw [show nearLo at_ + (i + 1) = nearLo at_ + i + 1 by omega, show nearLo at_ + (i - 1 + 1) = nearLo at_ + i - 1 + 1 by omega, show nearLo at_ + (i - 1) = nearLo at_ + i - 1 by omega]
  constructor
  · intro h i h1 h2
    have hi1 : 1 ≤ i - nearLo at_ := by unfold loA at h1; unfold nearLo; omega
    have hi2 : i - nearLo at_ < (nearL l at_).length - 1 := by rw [hl]; unfold hiA at h2; unfold nearHi nearLo; omega
    have := h (i - nearLo at_) hi1 hi2
    rw [key _ hi1 hi2, show nearLo at_ + (i - nearLo at_) = i by unfold loA at h1; unfold nearLo; omega] at this
    exact this
  · intro h i h1 h2
    rw [key i h1 h2]
    refine h _ ?_ ?_
    · unfold loA nearLo; omega
    · rw [hl] at h2; unfold nearHi nearLo at h2; unfold hiA nearLo; omega
theorem frm_to {wr : Bool} {a x : Int} (hx : permB wr x = true) : frm wr (a + frm wr (x - a)) = x := by
  unfold permB at hx; unfold frm
  cases wr
  · simp; omega
  · simp at hx ⊢; omega
theorem frm_back {wr : Bool} {a x : Int} (hx : permB wr x = true) : frm wr (a - frm wr (a - x)) = x := by
  unfold permB at hx; unfold frm
  cases wr
  · simp; omega
  · simp at hx ⊢; omega
theorem frm_in {wr : Bool} {a : Int} (h : wr = true) : 0 ≤ frm wr a ∧ frm wr a < 216000 := by
  subst h; unfold frm; simp; omega
/-- Two steps that go together from one entry to another one. -/
theorem two_steps (wr : Bool) (a b x : Int) : frm wr (x - a) + frm wr (b - x) = frm wr (b - a) ∨ (wr = true ∧ frm wr (x - a) + frm wr (b - x) = frm wr (b - a) + 216000) := by
  unfold frm
  cases wr
  · left; simp; omega
  · simp; omega
theorem sec_at {wr : Bool} {l : List Int} {at_ i : Nat} {x : Int} (ha : at_ < l.length) : sec wr (l.set at_ x) i = frm wr ((if i + 1 = at_ then x else nth l (i + 1)) - (if i = at_ then x else nth l i)) - frm wr ((if i - 1 + 1 = at_ then x else nth l (i - 1 + 1)) - (if i - 1 = at_ then x else nth l (i - 1))) := by
  unfold sec stp
  rw [nth_set _ _ _ ha, nth_set _ _ _ ha, nth_set _ _ _ ha, nth_set _ _ _ ha]
theorem raw_of_fit {wr : Bool} {l : List Int} {bend : Int} {at_ : Nat} {x : Int} (h3 : 3 ≤ l.length) (b0 : 0 ≤ bend) (ha : at_ < l.length) (hx : permB wr x = true) (hf : fitB wr l bend at_ x = true) : x ∈ rawL wr l bend at_ := by
  have hfit := fit_iff.1 hf
  have hcm : (cntM bend : Int) = 2 * (bend + 2) + 1 := by unfold cntM; omega
  unfold rawL
  by_cases h1 : 2 ≤ at_
  · rw [if_pos h1]
    obtain ⟨k, rfl⟩ : ∃ k, at_ = k + 2 := ⟨at_ - 2, by omega⟩
    have h := hfit (k + 1) (by unfold loA; omega) (by unfold hiA; omega)
    rw [sec_at ha, if_pos rfl, if_neg (by omega), show k + 1 - 1 = k by omega, if_neg (by omega), if_neg (by omega)] at h
    rw [show k + 2 - 2 = k by omega]
    unfold raw1 stp
    generalize hS : frm wr (nth l (k + 1) - nth l k) = S at *
    generalize hK : frm wr (x - nth l (k + 1)) = K at *
    refine mem_addL.2 ⟨(K - (S - (bend + 2))).toNat, by omega, ?_⟩
    have e : S - (bend + 2) + ((K - (S - (bend + 2))).toNat : Int) = K := by omega
    rw [e]
    exact mem_addK.2 ⟨by rw [← hK]; exact (frm_to hx).symm, hx, fun hw => by rw [← hK]; exact frm_in hw⟩
  · rw [if_neg h1]
    by_cases h2 : at_ + 2 < l.length
    · rw [if_pos h2]
      have h := hfit (at_ + 1) (by unfold loA; omega) (by unfold hiA; omega)
      rw [sec_at ha, if_neg (by omega), if_neg (by omega), show at_ + 1 - 1 = at_ by omega, if_neg (by omega), if_pos rfl] at h
      unfold raw2 stp
      generalize hS : frm wr (nth l (at_ + 1 + 1) - nth l (at_ + 1)) = S at *
      generalize hK : frm wr (nth l (at_ + 1) - x) = K at *
      refine mem_addL.2 ⟨(K - (S - (bend + 2))).toNat, by omega, ?_⟩
      have e : S - (bend + 2) + ((K - (S - (bend + 2))).toNat : Int) = K := by omega
      rw [e]
      exact mem_addK.2 ⟨by rw [← hK]; exact (frm_back hx).symm, hx, fun hw => by rw [← hK]; exact frm_in hw⟩
    · rw [if_neg h2]
      obtain rfl : at_ = 1 := by omega
      have h := hfit 1 (by unfold loA; omega) (by unfold hiA; omega)
      have hs : sec wr (l.set 1 x) 1 = frm wr (nth l 2 - x) - frm wr (x - nth l 0) := by rw [sec_at ha]; rfl
      rw [hs] at h
      have ht := two_steps wr (nth l 0) (nth l 2) x
      unfold raw3
      have hmem : ∀ S : Int, frm wr (x - nth l 0) + frm wr (nth l 2 - x) = S → x ∈ addL wr (fun x => nth l 0 + x) (half1 S bend) (cntH S bend) := fun S hS => by
        have e1 := Int.tmod_add_mul_tdiv (S - (bend + 2)) 2
        have t1 := Int.tmod_lt_of_pos (S - (bend + 2)) (show (0 : Int) < 2 by decide)
        have t2 : -2 < (S - (bend + 2)).tmod 2 := Int.lt_tmod_of_pos _ (by decide)
        have e2 := Int.tmod_add_mul_tdiv (S + (bend + 2)) 2
        have t3 := Int.tmod_lt_of_pos (S + (bend + 2)) (show (0 : Int) < 2 by decide)
        have t4 : -2 < (S + (bend + 2)).tmod 2 := Int.lt_tmod_of_pos _ (by decide)
        have hb1 : half1 S bend = (S - (bend + 2)).tdiv 2 - 1 := rfl
        have hb2 : half2 S bend = (S + (bend + 2)).tdiv 2 + 1 := rfl
        have hc : (cntH S bend : Int) = half2 S bend - half1 S bend + 1 ∨ cntH S bend = 0 := by unfold cntH; omega
        generalize hK : frm wr (x - nth l 0) = K at *
        have hin : half1 S bend ≤ K ∧ K ≤ half2 S bend := by
          rw [hb1, hb2]
          generalize frm wr (nth l 2 - x) = K2 at *
          omega
        refine mem_addL.2 ⟨(K - half1 S bend).toNat, by unfold cntH; omega, ?_⟩
        have e : half1 S bend + ((K - half1 S bend).toNat : Int) = K := by omega
        rw [e]
        exact mem_addK.2 ⟨by rw [← hK]; exact (frm_to hx).symm, hx, fun hw => by rw [← hK]; exact frm_in hw⟩
      rcases ht with ht | ⟨hw, ht⟩
      · exact List.mem_append_left _ (hmem _ ht)
      · refine List.mem_append_right _ ?_
        rw [if_pos hw]
        exact hmem _ ht
end Go.Proofs.Ytgpgfmemnhgmbaa

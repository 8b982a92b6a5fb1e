/- The reference's Repairs are audit's: the lists are equal. -/
import Derived.Test.YtgpgfmemnhgmbaaRe7
namespace Go.Proofs.Ytgpgfmemnhgmbaa
open Go.RowKit

theorem frm_self {wr : Bool} {x : Int} (hx : permB wr x = true) : frm wr x = x := by
  unfold permB at hx; unfold frm
  cases wr
  · rfl
  · simp at hx ⊢; omega
theorem frm_tri {wr : Bool} {a x : Int} (hx : permB wr x = true) : frm wr (a - frm wr (a - x)) = x := frm_back hx
theorem tries_of_fit {wr : Bool} {l : List Int} {bend : Int} {at_ : Nat} {x : Int} (h3 : 3 ≤ l.length) (ha : at_ < l.length) (hx : permB wr x = true) (hf : fitB wr l bend at_ x = true) : ∃ t, t ∈ triesL wr l bend at_ ∧ frm wr t = x := by
  have hfit := fit_iff.1 hf
  have hcm : ∀ d : Int, -(bend + 2) ≤ d → d ≤ bend + 2 → ((d + (bend + 2)).toNat < cntM bend ∧ -(bend + 2) + ((d + (bend + 2)).toNat : Int) = d) := fun d h1 h2 => by unfold cntM; omega
  unfold triesL
  by_cases h0 : at_ = 0
  · subst h0
    have h := hfit 1 (by unfold loA; omega) (by unfold hiA; omega)
    have hs : sec wr (l.set 0 x) 1 = frm wr (nth l 2 - nth l 1) - frm wr (nth l 1 - x) := by rw [sec_at ha]; rfl
    obtain ⟨c1, c2⟩ := hcm _ h.1 h.2
    refine ⟨nth l 1 - frm wr (nth l 1 - x), mem_tryL.2 ⟨_, c1, ?_⟩, frm_back hx⟩
    rw [c2, hs]
    unfold tryK
    rw [if_pos rfl]
    unfold tryA stp
    rw [List.mem_singleton, show (1 + 1 : Nat) = 2 from rfl]
    omega
  · by_cases h1 : at_ + 1 = l.length
    · obtain ⟨k, rfl⟩ : ∃ k, at_ = k + 2 := ⟨at_ - 2, by omega⟩
      have h := hfit (k + 1) (by unfold loA; omega) (by unfold hiA; omega)
      have hs : sec wr (l.set (k + 2) x) (k + 1) = frm wr (x - nth l (k + 1)) - frm wr (nth l (k + 1) - nth l k) := by
        rw [sec_at ha, if_pos rfl, if_neg (by omega), show k + 1 - 1 = k by omega, if_neg (by omega), if_neg (by omega)]
      obtain ⟨c1, c2⟩ := hcm _ h.1 h.2
      refine ⟨nth l (k + 1) + frm wr (x - nth l (k + 1)), mem_tryL.2 ⟨_, c1, ?_⟩, frm_to hx⟩
      rw [c2, hs]
      unfold tryK
      rw [if_neg h0, if_pos h1]
      unfold tryB stp
      rw [List.mem_singleton, ← h1, show k + 2 + 1 - 2 = k + 1 by omega, show k + 2 + 1 - 3 = k by omega]
      omega
    · obtain ⟨k, rfl⟩ : ∃ k, at_ = k + 1 := ⟨at_ - 1, by omega⟩
      have h := hfit (k + 1) (by unfold loA; omega) (by unfold hiA; omega)
      have hs : sec wr (l.set (k + 1) x) (k + 1) = frm wr (nth l (k + 2) - x) - frm wr (x - nth l k) := by
        rw [sec_at ha, if_neg (by omega), if_pos rfl, show k + 1 - 1 = k by omega, if_pos rfl, if_neg (by omega)]
      obtain ⟨c1, c2⟩ := hcm _ h.1 h.2
      have ht := two_steps wr (nth l k) (nth l (k + 2)) x
      refine ⟨nth l k + frm wr (x - nth l k), mem_tryL.2 ⟨_, c1, ?_⟩, frm_to hx⟩
      rw [c2, hs]
      unfold tryK
      rw [if_neg h0, if_neg h1]
      unfold tryC
      rw [show k + 1 + 1 = k + 2 by omega, show k + 1 - 1 = k by omega]
      generalize frm wr (x - nth l k) = a at *
      generalize frm wr (nth l (k + 2) - x) = b at *
      generalize frm wr (nth l (k + 2) - nth l k) = g at *
      rcases ht with ht | ⟨hw, ht⟩
      · refine List.mem_append_left _ ?_
        have e : g - (b - a) = a * 2 := by omega
        rw [e, Int.mul_tmod_left, if_pos rfl, Int.mul_tdiv_cancel _ (by decide)]
        exact List.mem_singleton.2 rfl
      · refine List.mem_append_right _ ?_
        have e : g + 216000 - (b - a) = a * 2 := by omega
        rw [e, Int.mul_tmod_left, if_pos ⟨hw, rfl⟩, Int.mul_tdiv_cancel _ (by decide)]
        exact List.mem_singleton.2 rfl
theorem fold_asc (wr : Bool) (l : List Int) (bend : Int) (at_ : Nat) : ∀ (T out : List Int), Asc out → Asc (T.foldl (addP wr l bend at_) out)
  | [], _, h => h
  | t :: T, out, h => by
    refine fold_asc wr l bend at_ T _ ?_
    unfold addP
    split
    · exact asc_putI h
    · exact h
theorem mem_fold {wr : Bool} {l : List Int} {bend : Int} {at_ : Nat} {x : Int} : ∀ {T out : List Int}, x ∈ T.foldl (addP wr l bend at_) out ↔ x ∈ out ∨ ∃ t, t ∈ T ∧ frm wr t = x ∧ permB wr x = true ∧ goodB wr l bend at_ x = true
  | [], out => by simp
  | t :: T, out => by
    rw [List.foldl_cons, mem_fold (T := T)]
    constructor
    · rintro (h | ⟨u, h1, h2⟩)
      · unfold addP at h
        split at h
        · rename_i hc
          rw [Bool.and_eq_true] at hc
          rcases mem_putI.1 h with h | h
          · subst h; exact .inr ⟨t, List.mem_cons_self .., rfl, hc.1, hc.2⟩
          · exact .inl h
        · exact .inl h
      · exact .inr ⟨u, List.mem_cons_of_mem _ h1, h2⟩
    · rintro (h | ⟨u, h1, h2, h3, h4⟩)
      · refine .inl ?_
        unfold addP
        split
        · exact mem_putI.2 (.inr h)
        · exact h
      · rcases List.mem_cons.1 h1 with h1 | h1
        · subst h1
          refine .inl ?_
          unfold addP
          rw [h2, h3, h4, Bool.and_self, if_pos rfl]
          exact mem_putI.2 (.inl rfl)
        · exact .inr ⟨u, h1, h2, h3, h4⟩
theorem ref_rep {wr : Bool} {l : List Int} {bend : Int} {at_ : Nat} (h3 : 3 ≤ l.length) (b0 : 0 ≤ bend) (ha : at_ < l.length) : refL wr l bend at_ = repL wr l bend at_ := by
  unfold refL repL
  split
  · rfl
  · refine asc_eq (fold_asc _ _ _ _ _ _ List.Pairwise.nil) (asc_filter (asc_once _) _) fun x => ?_
    rw [mem_fold, List.mem_filter, mem_once]
    constructor
    · rintro (h | ⟨t, h1, h2, h4, h5⟩)
      · exact absurd h (List.not_mem_nil)
      · have hf := (good_fit h3 ha).1 h5
        exact ⟨raw_of_fit h3 b0 ha h4 hf, hf⟩
    · rintro ⟨h1, h2⟩
      have hp := raw_perm h1
      obtain ⟨t, ht, e⟩ := tries_of_fit h3 ha hp h2
      exact .inr ⟨t, ht, e, hp, (good_fit h3 ha).2 h2⟩
end Go.Proofs.Ytgpgfmemnhgmbaa

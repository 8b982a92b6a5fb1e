/- Repairs, the plain law: what a repair is; a wrong entry is found. No program in sight. -/
import Derived.Test.YtgpgfmemnhgmbaaProg
import Derived.Test.YtgpgfmemnhgmbaaLay
import Derived.Test.YtgpgfmemnhgmbaaRegion
import Derived.Test.YtgpgfmemnhgmbaaMix
import Derived.WalkKit
import Derived.WalkSpells
import Derived.WalkLawsBesides
import Derived.Lib.Hide
import Derived.BigQuiet
import Derived.Test.YtgpgfmemnhgmbaaRe9
namespace Go.Proofs.Ytgpgfmemnhgmbaa
open Go.RowKit

/-- No bad difference: the list is possible. -/
def Poss (wr : Bool) (l : List Int) (bend : Int) : Prop := ∀ i, 1 ≤ i → i < l.length - 1 → -(bend + 2) ≤ sec wr l i ∧ sec wr l i ≤ bend + 2
theorem poss_iff {wr : Bool} {l : List Int} {bend : Int} : badL wr l bend 1 (l.length - 1) = [] ↔ Poss wr l bend := by
  rw [← List.isEmpty_iff, badN_of_L]; rfl
theorem Poss.more {wr : Bool} {l : List Int} {b c : Int} (h : Poss wr l b) (hc : b ≤ c) : Poss wr l c := fun i h1 h2 => by
  have := h i h1 h2; omega
theorem sec_far {wr : Bool} {l : List Int} {at_ i : Nat} {x : Int} (ha : at_ < l.length) (h1 : 1 ≤ i) (h : i + 1 < at_ ∨ at_ + 1 < i) : sec wr (l.set at_ x) i = sec wr l i := by
  rw [sec_at ha, if_neg (by omega), if_neg (by omega), if_neg (by omega), if_neg (by omega)]
  rfl
theorem mem_rep {wr : Bool} {l : List Int} {bend : Int} {at_ : Nat} {x : Int} (h3 : 3 ≤ l.length) (b0 : 0 ≤ bend) (ha : at_ < l.length) (hx : permB wr x = true) :
    x ∈ repL wr l bend at_ ↔ Poss wr (l.set at_ x) bend := by
  unfold repL
  have hn : (l.set at_ x).length = l.length := List.length_set
  split
  · rename_i hf
    obtain ⟨c, hc, hfc⟩ := List.any_eq_true.1 hf
    obtain ⟨i, rfl, h1, h2, hb⟩ := mem_badL.1 hc
    unfold farB at hfc
    rw [decide_eq_true_eq] at hfc
    constructor
    · intro h; exact absurd h (List.not_mem_nil)
    · intro h
      have := h i h1 (by rw [hn]; exact h2)
      rw [sec_far ha h1 (by omega)] at this
      rw [badB_f.2 this] at hb; cases hb
  · rename_i hf
    rw [List.mem_filter, mem_once, fit_iff]
    constructor
    · rintro ⟨_, h⟩ i h1 h2
      rw [hn] at h2
      by_cases hi : loA at_ ≤ i ∧ i < hiA at_ l.length
      · exact h i hi.1 hi.2
      · have hfar : i + 1 < at_ ∨ at_ + 1 < i := by unfold loA hiA at hi; omega
        rw [sec_far ha h1 hfar]
        cases hb : badB bend (sec wr l i)
        · exact badB_f.1 hb
        · refine absurd (List.any_eq_true.2 ⟨(i : Int), mem_badL.2 ⟨i, rfl, h1, h2, hb⟩, ?_⟩) hf
          unfold farB; rw [decide_eq_true_eq]; omega
    · intro h
      have hf : ∀ i, loA at_ ≤ i → i < hiA at_ l.length → -(bend + 2) ≤ sec wr (l.set at_ x) i ∧ sec wr (l.set at_ x) i ≤ bend + 2 := fun i h1 h2 => by
        refine h i ?_ ?_
        · unfold loA at h1; omega
        · unfold hiA at h2; rw [hn]; omega
      exact ⟨raw_of_fit h3 b0 ha hx (fit_iff.2 hf), hf⟩
theorem set_self (l : List Int) (i : Nat) (h : i < l.length) : l.set i (nth l i) = l := by
  apply List.ext_getElem?
  intro k
  by_cases e : i = k
  · subst e; rw [List.getElem?_set_self h, nth_getElem? h]
  · rw [List.getElem?_set_ne e]
theorem rep_self {wr : Bool} {l : List Int} {bend : Int} {at_ : Nat} (hg : Giv wr l) (b0 : 0 ≤ bend) (ha : at_ < l.length) : nth l at_ ∈ repL wr l bend at_ ↔ Poss wr l bend := by
  rw [mem_rep hg.n3 b0 ha (hg.perm _ ha), set_self l at_ ha]
theorem asc_rep (wr : Bool) (l : List Int) (bend : Int) (at_ : Nat) : Asc (repL wr l bend at_) := by
  unfold repL
  split
  · exact List.Pairwise.nil
  · exact asc_filter (asc_once _) _
theorem perm_rep {wr : Bool} {l : List Int} {bend : Int} {at_ : Nat} {x : Int} (h : x ∈ repL wr l bend at_) : permB wr x = true := by
  unfold repL at h
  split at h
  · exact absurd h (List.not_mem_nil)
  · exact raw_perm (mem_once.1 (List.mem_filter.1 h).1)
theorem posB_iff {wr : Bool} {l : List Int} {bend : Int} (h : gvE wr l bend = 0) : posB wr l bend = true ↔ Poss wr l bend := by
  unfold posB
  rw [h, ← poss_iff, ← List.isEmpty_iff]
  simp
theorem in_reps {wr : Bool} {l : List Int} {bend : Int} {k : Nat} (hk : k < l.length) (h : repL wr l bend k ≠ []) : (k : Int) ∈ reps wr l bend 0 l.length := by
  have : ∀ n, k < n → (k : Int) ∈ reps wr l bend 0 n := fun n => by
    induction n with
    | zero => intro h; omega
    | succ n ih =>
      intro hn
      rw [reps_step wr l bend 0 n (Nat.zero_le _)]
      by_cases e : k = n
      · subst e; rw [if_neg h]; exact List.mem_append_right _ (List.mem_singleton.2 rfl)
      · exact List.mem_append_left _ (ih (by omega))
  exact this _ hk
/-- What a change of one entry does to a list of plain steps. -/
theorem sec_f (l : List Int) (i : Nat) (h : 1 ≤ i) : sec false l i = nth l (i + 1) - 2 * nth l i + nth l (i - 1) := by
  unfold sec stp frm
  rw [show i - 1 + 1 = i by omega]
  simp only [Bool.false_eq_true, if_false]
  omega
/-- A wrong entry is suspect. -/
theorem sus_has {l : List Int} {bend : Int} {at_ : Nat} {x : Int} (hl : Giv false l) (hp : Poss false l bend) (b0 : 0 ≤ bend) (ha : at_ < l.length) (hs : ¬ Poss false (l.set at_ x) bend) :
    (at_ : Int) ∈ susL false (l.set at_ x) bend := by
  have hn : (l.set at_ x).length = l.length := List.length_set
  have hr : nth l at_ ∈ repL false (l.set at_ x) bend at_ := by
    rw [mem_rep (by rw [hn]; exact hl.n3) b0 (by omega) (hl.perm _ ha), List.set_set, set_self l at_ ha]
    exact hp
  have hne : repL false (l.set at_ x) bend at_ ≠ [] := fun h => by rw [h] at hr; exact absurd hr (List.not_mem_nil)
  have hm := in_reps (bend := bend) (wr := false) (l := l.set at_ x) (k := at_) (by omega) hne
  rw [sus_all, if_neg (fun h => hs (poss_iff.1 h))]
  unfold sus2
  rw [if_neg (fun h => by rw [h] at hm; exact absurd hm (List.not_mem_nil))]
  exact hm
/-- A change that is great enough leaves a bad difference, and all of them lie near. -/
theorem wrong_found {l : List Int} {bend c : Int} {at_ : Nat} (h3 : 3 ≤ l.length) (hp : Poss false l bend) (ha : at_ < l.length) (hc : bend + 2 < c ∨ c < -bend - 2)
    (h : (0 < at_ ∧ at_ + 1 < l.length) ∨ 2 * bend + 4 < mx c (-c)) : ¬ Poss false (l.set at_ (nth l at_ + c)) bend := by
  intro hq
  have hn : (l.set at_ (nth l at_ + c)).length = l.length := List.length_set
  have key : ∀ i, 1 ≤ i → i < l.length - 1 → (-(bend + 2) ≤ sec false l i ∧ sec false l i ≤ bend + 2) ∧ (-(bend + 2) ≤ sec false (l.set at_ (nth l at_ + c)) i ∧ sec false (l.set at_ (nth l at_ + c)) i ≤ bend + 2) := fun i h1 h2 => ⟨hp i h1 h2, hq i h1 (by omega)⟩
  by_cases hin : 0 < at_ ∧ at_ + 1 < l.length
  · have := key at_ (by omega) (by omega)
    rw [sec_f _ _ (by omega), sec_f _ _ (by omega), nth_set _ _ _ ha, nth_set _ _ _ ha, nth_set _ _ _ ha, if_neg (by omega), if_pos rfl, if_neg (by omega)] at this
    omega
  · rcases h with h | h
    · exact hin h
    · have hc' : 2 * bend + 4 < c ∨ 2 * bend + 4 < -c := by unfold mx at h; split at h <;> omega
      by_cases h0 : at_ = 0
      · have := key 1 (by omega) (by omega)
        rw [sec_f _ _ (by omega), sec_f _ _ (by omega), nth_set _ _ _ ha, nth_set _ _ _ ha, nth_set _ _ _ ha, if_neg (by omega), if_neg (by omega), if_pos (by omega), show 1 - 1 = at_ by omega] at this
        omega
      · have := key (at_ - 1) (by omega) (by omega)
        rw [sec_f _ _ (by omega), sec_f _ _ (by omega), nth_set _ _ _ ha, nth_set _ _ _ ha, nth_set _ _ _ ha, if_pos (by omega), if_neg (by omega), if_neg (by omega), show at_ - 1 + 1 = at_ by omega] at this
        omega
theorem first_near {l : List Int} {bend x : Int} {at_ : Nat} (hp : Poss false l bend) (ha : at_ < l.length) (hs : ¬ Poss false (l.set at_ x) bend) :
    (at_ : Int) - 1 ≤ nth (badL false (l.set at_ x) bend 1 ((l.set at_ x).length - 1)) 0 ∧ nth (badL false (l.set at_ x) bend 1 ((l.set at_ x).length - 1)) 0 ≤ at_ + 1 := by
  have hne : badL false (l.set at_ x) bend 1 ((l.set at_ x).length - 1) ≠ [] := fun h => hs (poss_iff.1 h)
  have hpos : 0 < (badL false (l.set at_ x) bend 1 ((l.set at_ x).length - 1)).length := List.length_pos_iff.2 hne
  obtain ⟨i, e, h1, h2, hb⟩ := mem_badL.1 (nth_mem hpos)
  rw [e]
  rw [List.length_set] at h2
  by_cases hfar : i + 1 < at_ ∨ at_ + 1 < i
  · rw [sec_far ha h1 hfar] at hb
    rw [badB_f.2 (hp i h1 h2)] at hb; cases hb
  · omega
end Go.Proofs.Ytgpgfmemnhgmbaa

/- audit: the closures of candidates. -/
import Derived.Test.YtgpgfmemnhgmbaaProg
import Derived.Test.YtgpgfmemnhgmbaaLay
import Derived.Test.YtgpgfmemnhgmbaaRegion
import Derived.Test.YtgpgfmemnhgmbaaMix
import Derived.WalkKit
import Derived.WalkSpells
import Derived.WalkLawsBesides
import Derived.Lib.Hide
import Derived.BigQuiet
import Derived.Test.YtgpgfmemnhgmbaaPlain
import Derived.Test.YtgpgfmemnhgmbaaAngle
import Derived.Test.YtgpgfmemnhgmbaaAud4
namespace Go.Proofs.Ytgpgfmemnhgmbaa
open Go.RowKit

theorem cand2 (b o m cap b3 b5 at_ : Nat) (l : List Int) (x : Int) (w : World)
    (c3 : w.cell? ⟨b3, 0, none⟩ = some (.slice (some ⟨b, o, none⟩) m cap)) (c5 : w.cell? ⟨b5, 0, none⟩ = some (.int .i64 ((at_ : Int) + 1))) (ha : at_ < m) (hm : m ≤ 1000)
    (hr : w.cell? ⟨b, o + at_, none⟩ = some (.int .i64 (nth l at_))) (p0 : -1048576 ≤ nth l at_ ∧ nth l at_ ≤ 1048576) (x0 : -100000000 ≤ x ∧ x ≤ 100000000) :
    Calls Try.prog 53 #[.int .i64 x, .pointer (some ⟨b3, 0, none⟩), .pointer (some ⟨b5, 0, none⟩)] w fun e w' => e = .returned (.int .i64 (nth l at_ + x)) ∧ w' = w := by
  have y0 : (0 : Int) ≤ (at_ : Int) := by omega
  have y1 : (at_ : Int) < (m : Int) := by omega
  have w1 : IntKind.i64.wrap (nth l at_ + x) = nth l at_ + x := IntWalk.i64_in _ (by omega)
  have w2 : wrap64 (at_ : Int) = (at_ : Int) := IntWalk.wrap64_in _ (by omega)
  generalize nth l at_ = A at *
  go_enter Try.func53, Try.ntmps53
  go_wp2
  go_ret
  exact ⟨rfl, rfl⟩
theorem cand3 (b o m cap b3 b5 at_ : Nat) (l : List Int) (x : Int) (w : World)
    (c3 : w.cell? ⟨b3, 0, none⟩ = some (.slice (some ⟨b, o, none⟩) m cap)) (c5 : w.cell? ⟨b5, 0, none⟩ = some (.int .i64 (at_ : Int))) (ha : at_ + 1 < m) (hm : m ≤ 1000)
    (hr : w.cell? ⟨b, o + (at_ + 1), none⟩ = some (.int .i64 (nth l (at_ + 1)))) (p0 : -1048576 ≤ nth l (at_ + 1) ∧ nth l (at_ + 1) ≤ 1048576) (x0 : -100000000 ≤ x ∧ x ≤ 100000000) :
    Calls Try.prog 54 #[.int .i64 x, .pointer (some ⟨b3, 0, none⟩), .pointer (some ⟨b5, 0, none⟩)] w fun e w' => e = .returned (.int .i64 (nth l (at_ + 1) - x)) ∧ w' = w := by
  have y0 : (0 : Int) ≤ (at_ : Int) + 1 := by omega
  have y1 : (at_ : Int) + 1 < (m : Int) := by omega
  have y2 : ((at_ : Int) + 1).toNat = at_ + 1 := by omega
  have w1 : IntKind.i64.wrap (nth l (at_ + 1) - x) = nth l (at_ + 1) - x := IntWalk.i64_in _ (by omega)
  have w2 : IntKind.i64.wrap ((at_ : Int) + 1) = (at_ : Int) + 1 := IntWalk.i64_in _ (by omega)
  generalize nth l (at_ + 1) = A at *
  go_enter Try.func54, Try.ntmps54
  go_wp2
  go_ret
  exact ⟨rfl, rfl⟩
theorem cand4 (b o m cap b3 : Nat) (l : List Int) (x : Int) (w : World)
    (c3 : w.cell? ⟨b3, 0, none⟩ = some (.slice (some ⟨b, o, none⟩) m cap)) (ha : 0 < m)
    (hr : w.cell? ⟨b, o + 0, none⟩ = some (.int .i64 (nth l 0))) (p0 : -1048576 ≤ nth l 0 ∧ nth l 0 ≤ 1048576) (x0 : -100000000 ≤ x ∧ x ≤ 100000000) :
    Calls Try.prog 55 #[.int .i64 x, .pointer (some ⟨b3, 0, none⟩)] w fun e w' => e = .returned (.int .i64 (nth l 0 + x)) ∧ w' = w := by
  have y1 : (0 : Int) < (m : Int) := by omega
  have w1 : IntKind.i64.wrap (nth l 0 + x) = nth l 0 + x := IntWalk.i64_in _ (by omega)
  rw [Nat.add_zero] at hr
  generalize nth l 0 = A at *
  go_enter Try.func55, Try.ntmps55
  go_wp2
  go_ret
  exact ⟨rfl, rfl⟩
theorem cand5 (b o m cap b3 : Nat) (l : List Int) (x : Int) (w : World)
    (c3 : w.cell? ⟨b3, 0, none⟩ = some (.slice (some ⟨b, o, none⟩) m cap)) (ha : 0 < m)
    (hr : w.cell? ⟨b, o + 0, none⟩ = some (.int .i64 (nth l 0))) (p0 : -1048576 ≤ nth l 0 ∧ nth l 0 ≤ 1048576) (x0 : -100000000 ≤ x ∧ x ≤ 100000000) :
    Calls Try.prog 56 #[.int .i64 x, .pointer (some ⟨b3, 0, none⟩)] w fun e w' => e = .returned (.int .i64 (nth l 0 + x)) ∧ w' = w := by
  have y1 : (0 : Int) < (m : Int) := by omega
  have w1 : IntKind.i64.wrap (nth l 0 + x) = nth l 0 + x := IntWalk.i64_in _ (by omega)
  rw [Nat.add_zero] at hr
  generalize nth l 0 = A at *
  go_enter Try.func56, Try.ntmps56
  go_wp2
  go_ret
  exact ⟨rfl, rfl⟩
/-- What 'add' adds at a step. -/
def addK (wr : Bool) (F : Int → Int) (k : Int) : List Int := if (permB wr (frm wr (F k)) && (!wr || (decide (0 ≤ k) && decide (k < 216000)))) = true then [frm wr (F k)] else []
def addL (wr : Bool) (F : Int → Int) (from_ : Int) : Nat → List Int
  | 0 => []
  | j + 1 => addL wr F from_ j ++ addK wr F (from_ + j)
theorem addK_len (wr : Bool) (F : Int → Int) (k : Int) : (addK wr F k).length ≤ 1 := by unfold addK; split <;> simp
theorem addL_len (wr : Bool) (F : Int → Int) (from_ : Int) : ∀ j, (addL wr F from_ j).length ≤ j
  | 0 => by simp [addL]
  | j + 1 => by have := addL_len wr F from_ j; have := addK_len wr F (from_ + j); simp only [addL, List.length_append]; omega
theorem mem_addK {wr : Bool} {F : Int → Int} {k x : Int} : x ∈ addK wr F k ↔ x = frm wr (F k) ∧ permB wr x = true ∧ (wr = true → 0 ≤ k ∧ k < 216000) := by
  unfold addK
  split
  · rename_i h
    rw [List.mem_singleton]
    rw [Bool.and_eq_true] at h
    constructor
    · rintro rfl
      refine ⟨rfl, h.1, fun hw => ?_⟩
      subst hw
      simpa using h.2
    · exact fun h => h.1
  · rename_i h
    constructor
    · exact fun h => absurd h (List.not_mem_nil)
    · rintro ⟨h1, h2, h3⟩
      refine absurd ?_ h
      rw [Bool.and_eq_true]
      subst h1
      refine ⟨h2, ?_⟩
      cases wr
      · rfl
      · have := h3 rfl
        simp; omega
theorem mem_addL {wr : Bool} {F : Int → Int} {from_ x : Int} : ∀ {j : Nat}, x ∈ addL wr F from_ j ↔ ∃ i : Nat, i < j ∧ x ∈ addK wr F (from_ + i)
  | 0 => by simp [addL]
  | j + 1 => by
    simp only [addL, List.mem_append, mem_addL (j := j)]
    constructor
    · rintro (⟨i, h1, h2⟩ | h)
      · exact ⟨i, by omega, h2⟩
      · exact ⟨j, by omega, h⟩
    · rintro ⟨i, h1, h2⟩
      by_cases e : i = j
      · subst e; exact .inr h2
      · exact .inl ⟨i, by omega, h2⟩
/-- What 'add' leaves: the row is longer, the captured variable holds it. -/
def AddPost (w : World) (l : List Int) (e : Ending) (w' : World) : Prop :=
  ∃ v d, e = .returned (.tuple #[]) ∧ w' = lay w [.inr d, .inl (.cells #[v] 22 (0, 0))] ∧ Ow (lay w [.inr d, .inl (.cells #[v] 22 (0, 0))]) (lay w [.inl (.cells #[.slice none 0 0] 22 (0, 0))]).heap.size v l
theorem Ow.form0 {w : World} {base : Nat} {v : Value} {l : List Int} (h : Ow w base v l) : ∃ a n cap, v = .slice a n cap := by obtain ⟨a, c, e⟩ := h.form; exact ⟨a, _, c, e⟩
theorem Ow.base {w : World} {b b' : Nat} {v : Value} {l : List Int} (h : Ow w b v l) (e : b = b') : Ow w b' v l := e ▸ h
theorem box_size (w : World) (v v' : Value) : (lay w [.inl (.cells #[v] 22 (0, 0))]).heap.size = (lay w [.inl (.cells #[v'] 22 (0, 0))]).heap.size := by
  show (World.alloc _ _).heap.size = (World.alloc _ _).heap.size
  rw [World.size_alloc, World.size_alloc]
set_option maxHeartbeats 4000000 in
set_option maxRecDepth 100000 in
theorem aud_add (g : FuncId) (lb : List Value) (F : Int → Int) (a : Option Addr) (n cap b3 : Nat) (wr : Bool) (from_ to_ : Int) (cnt : Nat) (v : Value) (l : List Int) (w : World) (d : Ext)
    (eI : ∀ args w, (callFunc g args).run Try.prog w = .ok (.enter g args) w)
    (h3 : b3 < w.heap.size) (c3 : w.cell? ⟨b3, 0, none⟩ = some (.slice a n cap)) (c3' : w.cell? ⟨b3, 1, none⟩ = some (.bool wr))
    (hf : ∀ k, -10000000 ≤ k → k ≤ 10000000 → ∀ L, Calls Try.prog g (.int .i64 k :: lb).toArray (lay w L) fun e w' => e = .returned (.int .i64 (F k)) ∧ w' = lay w L)
    (hF : ∀ k, -10000000 ≤ k → k ≤ 10000000 → -1000000000 ≤ F k ∧ F k ≤ 1000000000)
    (h0 : -5000000 ≤ from_) (h1 : to_ ≤ 5000000) (hc : (cnt : Int) = to_ - from_ + 1) (hl : l.length ≤ 100000)
    (hown : Ow (lay w [.inr d, .inl (.cells #[v] 22 (0, 0))]) (lay w [.inl (.cells #[.slice none 0 0] 22 (0, 0))]).heap.size v l) :
    Calls Try.prog 52 #[.int .i64 from_, .int .i64 to_, .func (.func g) #[] lb.toArray, .pointer (some ⟨b3, 0, none⟩), .pointer (some ⟨posn w [], 0, none⟩)] (lay w [.inr d, .inl (.cells #[v] 22 (0, 0))]) (AddPost w (l ++ addL wr F from_ cnt)) := by
  have HF := Lib.hid hf
  have HB := Lib.hid hF
  have HO := Lib.hid hown
  clear hf hF hown
  go_enter Try.func52, Try.ntmps52
  go_wp2_with fail
  go_loopw [8] (fun vk wr' => ∃ (j : Nat) (v : Value) (d : Ext), j ≤ cnt ∧ vk = .int .i64 (from_ + (j : Int)) ∧ wr' = lay w [.inr d, .inl (.cells #[v] 22 (0, 0))] ∧
      Ow (lay w [.inr d, .inl (.cells #[v] 22 (0, 0))]) (lay w [.inl (.cells #[.slice none 0 0] 22 (0, 0))]).heap.size v (l ++ addL wr F from_ j)) (fun vk _ => (to_ + 1 - intOf vk).toNat)
  case atStart => exact ⟨0, v, d, Nat.zero_le _, by simp, rfl, by simpa [addL] using HO.out⟩
  case round =>
    obtain ⟨j, v, d, hj, rfl, rfl, hown⟩ := hrel
    by_cases hlt : j < cnt
    · have hst : addL wr F from_ (j + 1) = addL wr F from_ j ++ addK wr F (from_ + j) := rfl
      have hll := addL_len wr F from_ j
      obtain ⟨k, hk⟩ : ∃ k, from_ + (j : Int) = k := ⟨_, rfl⟩
      rw [hk] at hst ⊢
      have x1 : k ≤ to_ := by omega
      have hFk := HB.out k (by omega) (by omega)
      have H1 := Lib.hid (HF.out k (by omega) (by omega))
      have wk : IntKind.i64.wrap (k + 1) = k + 1 := IntWalk.i64_in _ (by omega)
      have H2 := Lib.hid (fun W => aud_form a n cap wr (F k) W)
      have H3 := Lib.hid (fun W => aud_permits a n cap wr (frm wr (F k)) W)
      have hC : addK wr F k = if (permB wr (frm wr (F k)) && (!wr || (decide (0 ≤ k) && decide (k < 216000)))) = true then [frm wr (F k)] else [] := rfl
      rw [hC] at hst
      have hwf : permB wr (frm wr (F k)) = true → (Lit.int .i64 (frm wr (F k))).wf = true := fun h => by
        have := perm_bd h
        simp [Lit.wf, IntKind.min, IntKind.max, IntKind.bits, IntKind.signed]; omega
      clear hC HF HB hFk
      have HR : Hid (Ow (lay w [.inr d, .inl (.cells #[v] 22 (0, 0))]) (lay w [.inl (.cells #[.slice none 0 0] 22 (0, 0))]).heap.size v (l ++ addL wr F from_ j)) := Lib.hid hown
      clear hown
      generalize addL wr F from_ j = R at *
      generalize F k = f at *
      generalize frm wr f = n at *
      cases hP : permB wr n
      · rw [hP] at hst H3
        have HST : Hid (addL _ F from_ (j + 1) = R) := Lib.hid (by rw [hst]; simp)
        clear hst hP hwf
        go_wp2_with fail
        refine region_bw (by kernel_rfl) (by kernel_rfl) ?_
        repeat (go_big_quiet_step ((first | ((with_reducible refine bqs (H1.out _) ?_); exact ⟨_, rfl⟩) | (go_at_call 41; exact bq (H2.out _) (fun d => lay_join _ _ _ d)))))
        refine wpQuiet_nil ?_
        rintro w' ⟨d, rfl⟩
        rw [lay_bw]
        go_wp2_with (go_at_call 40; refine (H3.out _).mono ?_; rintro e w' ⟨rfl, d, rfl⟩)
        go_roundw
        case rel => exact ⟨j + 1, v, _, hlt, congrArg (Value.int .i64) (by omega), Classical.choose_spec (lay_fold w [_, _, _] [.inl (.cells #[v] 22 (0, 0))]), by rw [← Classical.choose_spec (lay_fold w [_, _, _] [.inl (.cells #[v] 22 (0, 0))]), HST.out]; exact ow_on (A := [_, _]) HR.out⟩
        case measure => simp [intOf]; omega
      replace hwf := hwf hP
      rw [hP] at hst H3
      cases wr
      · have HST : Hid (addL _ F from_ (j + 1) = R ++ [n]) := Lib.hid (by rw [hst]; simp)
        clear hst hP
        go_wp2_with fail
        refine region_bw (by kernel_rfl) (by kernel_rfl) ?_
        repeat (go_big_quiet_step ((first | ((with_reducible refine bqs (H1.out _) ?_); exact ⟨_, rfl⟩) | (go_at_call 41; exact bq (H2.out _) (fun d => lay_join _ _ _ d)))))
        refine wpQuiet_nil ?_
        rintro w' ⟨d, rfl⟩
        rw [lay_bw]
        go_wp2_with (first | (go_at_call 40; refine (H3.out _).mono ?_; rintro e w' ⟨rfl, d, rfl⟩) | (at_builtin; refine push_int rfl _ _ rfl (lay w [.inl (.cells #[v] 22 (0, 0))]) _ (n) 3 _ _ _ ?_ (ow_on (A := [_, _, _]) (HR.out.base (box_size w _ _))) ?_ rfl rfl (by simp only [List.length_append]; omega) hwf ?_; exact lay_below (A := [_, _, _, _]); exact lay_get w _ 0 _ rfl; intro v' d' hv'; obtain ⟨va, vn, vc, hve⟩ := hv'.form0; subst hve))
        go_roundw
        case rel => exact ⟨j + 1, _, d', hlt, congrArg (Value.int .i64) (by omega), rfl, by rw [HST.out, ← List.append_assoc]; exact ow_swap _ (lay_lt _ _ _) (hv'.base (box_size w _ _))⟩
        case measure => simp [intOf]; omega
      by_cases hk0 : 0 ≤ k
      · by_cases hk1 : k < 216000
        · have HST : Hid (addL _ F from_ (j + 1) = R ++ [n]) := Lib.hid (by rw [hst, decide_eq_true hk0, decide_eq_true hk1]; simp)
          clear hst hP
          go_wp2_with fail
          refine region_bw (by kernel_rfl) (by kernel_rfl) ?_
          repeat (go_big_quiet_step ((first | ((with_reducible refine bqs (H1.out _) ?_); exact ⟨_, rfl⟩) | (go_at_call 41; exact bq (H2.out _) (fun d => lay_join _ _ _ d)))))
          refine wpQuiet_nil ?_
          rintro w' ⟨d, rfl⟩
          rw [lay_bw]
          go_wp2_with (first | (go_at_call 40; refine (H3.out _).mono ?_; rintro e w' ⟨rfl, d, rfl⟩) | (at_builtin; refine push_int rfl _ _ rfl (lay w [.inl (.cells #[v] 22 (0, 0))]) _ (n) 3 _ _ _ ?_ (ow_on (A := [_, _, _]) (HR.out.base (box_size w _ _))) ?_ rfl rfl (by simp only [List.length_append]; omega) hwf ?_; exact lay_below (A := [_, _, _, _]); exact lay_get w _ 0 _ rfl; intro v' d' hv'; obtain ⟨va, vn, vc, hve⟩ := hv'.form0; subst hve))
          go_roundw
          case rel => exact ⟨j + 1, _, d', hlt, congrArg (Value.int .i64) (by omega), rfl, by rw [HST.out, ← List.append_assoc]; exact ow_swap _ (lay_lt _ _ _) (hv'.base (box_size w _ _))⟩
          case measure => simp [intOf]; omega
        · have HST : Hid (addL _ F from_ (j + 1) = R) := Lib.hid (by rw [hst, decide_eq_false hk1]; simp)
          clear hst hP hwf
          go_wp2_with fail
          refine region_bw (by kernel_rfl) (by kernel_rfl) ?_
          repeat (go_big_quiet_step ((first | ((with_reducible refine bqs (H1.out _) ?_); exact ⟨_, rfl⟩) | (go_at_call 41; exact bq (H2.out _) (fun d => lay_join _ _ _ d)))))
          refine wpQuiet_nil ?_
          rintro w' ⟨d, rfl⟩
          rw [lay_bw]
          go_wp2_with (go_at_call 40; refine (H3.out _).mono ?_; rintro e w' ⟨rfl, d, rfl⟩)
          go_roundw
          case rel => exact ⟨j + 1, v, _, hlt, congrArg (Value.int .i64) (by omega), Classical.choose_spec (lay_fold w [_, _, _] [.inl (.cells #[v] 22 (0, 0))]), by rw [← Classical.choose_spec (lay_fold w [_, _, _] [.inl (.cells #[v] 22 (0, 0))]), HST.out]; exact ow_on (A := [_, _]) HR.out⟩
          case measure => simp [intOf]; omega
      · have HST : Hid (addL _ F from_ (j + 1) = R) := Lib.hid (by rw [hst, decide_eq_false hk0]; simp)
        clear hst hP hwf
        go_wp2_with fail
        refine region_bw (by kernel_rfl) (by kernel_rfl) ?_
        repeat (go_big_quiet_step ((first | ((with_reducible refine bqs (H1.out _) ?_); exact ⟨_, rfl⟩) | (go_at_call 41; exact bq (H2.out _) (fun d => lay_join _ _ _ d)))))
        refine wpQuiet_nil ?_
        rintro w' ⟨d, rfl⟩
        rw [lay_bw]
        go_wp2_with (go_at_call 40; refine (H3.out _).mono ?_; rintro e w' ⟨rfl, d, rfl⟩)
        go_roundw
        case rel => exact ⟨j + 1, v, _, hlt, congrArg (Value.int .i64) (by omega), Classical.choose_spec (lay_fold w [_, _, _] [.inl (.cells #[v] 22 (0, 0))]), by rw [← Classical.choose_spec (lay_fold w [_, _, _] [.inl (.cells #[v] 22 (0, 0))]), HST.out]; exact ow_on (A := [_, _]) HR.out⟩
        case measure => simp [intOf]; omega
    · obtain rfl : j = cnt := by omega
      have HR := Lib.hid hown
      have x1 : to_ < from_ + (j : Int) := by omega
      clear hown
      go_wp2_with fail
      exact bodyPost_end (v := .tuple #[]) (results_none rfl _ _ _) rfl ⟨v, d, rfl, rfl, HR.out⟩
end Go.Proofs.Ytgpgfmemnhgmbaa

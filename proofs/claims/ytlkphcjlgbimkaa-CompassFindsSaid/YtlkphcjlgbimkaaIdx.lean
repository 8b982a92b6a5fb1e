/- slices.IndexFunc and ContainsFunc at ints, for a closure with whatever captured variables. -/
import Derived.Test.YtlkphcjlgbimkaaProg
import Derived.Test.YtlkphcjlgbimkaaLay
import Derived.Test.YtlkphcjlgbimkaaRegion
import Derived.Test.YtlkphcjlgbimkaaMix
import Derived.WalkKit
import Derived.WalkSpells
import Derived.WalkLawsBesides
import Derived.Lib.Hide
import Derived.BigQuiet
import Derived.Test.YtlkphcjlgbimkaaPlain
import Derived.Test.YtlkphcjlgbimkaaSl
namespace Go.Proofs.Ytlkphcjlgbimkaa
open Go.RowKit

/-- The first place from k on where p holds, or -1. -/
def idxP (l : List Int) (p : Int → Bool) : Nat → Nat → Int
  | _, 0 => -1
  | k, f + 1 => if p (nth l k) then (k : Int) else idxP l p (k + 1) f
theorem idxP_miss {l : List Int} {p : Int → Bool} {k m : Nat} (h : p (nth l k) = false) (hk : k < m) (e : idxP l p 0 m = idxP l p k (m - k)) : idxP l p 0 m = idxP l p (k + 1) (m - (k + 1)) := by
  rw [e, show m - k = (m - (k + 1)) + 1 by omega]
  show (if p (nth l k) then (k : Int) else _) = _
  rw [h]; rfl
theorem idxP_got {l : List Int} {p : Int → Bool} {k m : Nat} (h : p (nth l k) = true) (hk : k < m) (e : idxP l p 0 m = idxP l p k (m - k)) : idxP l p 0 m = (k : Int) := by
  rw [e, show m - k = (m - (k + 1)) + 1 by omega]
  show (if p (nth l k) then (k : Int) else _) = _
  rw [h]; rfl
theorem idxP_spec (l : List Int) (p : Int → Bool) : ∀ f k, k + f = l.length → decide (0 ≤ idxP l p k f) = (l.drop k).any p
  | 0, k, h => by rw [List.drop_of_length_le (by omega)]; rfl
  | f + 1, k, h => by
    have hk : k < l.length := by omega
    rw [List.drop_eq_getElem_cons hk, List.any_cons, ← idxP_spec l p f (k + 1) (by omega)]
    have e : nth l k = l[k] := by unfold nth; simp [List.getD, hk]
    show decide (0 ≤ (if p (nth l k) then (k : Int) else _)) = _
    rw [e]
    cases p l[k]
    · simp
    · simp
theorem idxP_any (l : List Int) (p : Int → Bool) : decide (0 ≤ idxP l p 0 l.length) = l.any p := by rw [idxP_spec l p l.length 0 (by omega)]; rfl

def IdxPost (w : World) (x : Int) (e : Ending) (w' : World) : Prop := e = .returned (.int .i64 x) ∧ ∃ d, w' = bw w d
set_option maxHeartbeats 1000000 in
theorem sl_IndexFuncL (g : FuncId) (lb : List Value) (p : Int → Bool) (v : Value) (l : List Int) (w : World) (hv : Sl w v l)
    (eI : ∀ args w, (callFunc g args).run Try.prog w = .ok (.enter g args) w)
    (hf : ∀ i, i < l.length → ∀ d, Calls Try.prog g (.int .i64 (nth l i) :: lb).toArray (bw w d) fun e w' => e = .returned (.bool (p (nth l i))) ∧ ∃ d, w' = bw w d) :
    Calls Try.prog 31 #[v, .func (.func g) #[] lb.toArray] w (IdxPost w (idxP l p 0 l.length)) := by
  by_cases hz : l = []
  · subst hz
    obtain ⟨a, cap, rfl, -⟩ := hv
    clear hf
    refine lay_start ?_
    go_enter Try.func31, Try.ntmps31
    go_wp2_with fail
    refine wp_loop_rounds 1 ?_
    rw [rounds_succ]
    go_wp2
    go_ret
    exact ⟨rfl, lay_ex _ _⟩
  · obtain ⟨b, o, cap, rfl, hc, -, hb, hr⟩ := hv.open (List.length_pos_iff.2 hz)
    obtain ⟨m, hm⟩ : ∃ m, l.length = m := ⟨_, rfl⟩
    have HF := Lib.hid (fun i (hi : i < m) d => hf i (by omega) d)
    rw [hm] at hr hc ⊢
    have HR := Lib.hid hr
    clear hf hz hm hr
    refine lay_start ?_
    go_enter Try.func31, Try.ntmps31
    go_wp2_with fail
    go_loopw [8] (fun i wr => ∃ (k : Nat) (d : Ext), k ≤ m ∧ i = .int .i64 k ∧ wr = lay w [.inr d] ∧ idxP l p 0 m = idxP l p k (m - k)) (fun i _ => m - (intOf i).toNat)
    case atStart => exact ⟨0, noExt _, Nat.zero_le _, rfl, (bw_noExt _).symm, rfl⟩
    case round =>
      obtain ⟨k, d, hk, rfl, rfl, hA⟩ := hrel
      have HA := Lib.hid hA
      clear hA
      by_cases hlt : k < m
      · have e1 := HR.out k hlt
        have H1 := Lib.hid (HF.out k hlt d)
        cases ho : p (nth l k)
        · have HN := Lib.hid (idxP_miss ho hlt HA.out)
          rw [ho] at H1
          clear ho
          generalize nth l k = x at *
          go_wp2_with (refine H1.out.mono ?_; rintro e w' ⟨rfl, d1, rfl⟩)
          go_roundw
          case rel => exact ⟨k + 1, d1, by omega, by go_num, rfl, HN.out⟩
          case measure => simp [intOf]; omega
        · have HN := Lib.hid (idxP_got ho hlt HA.out)
          rw [ho] at H1
          clear ho
          generalize nth l k = x at *
          go_wp2_with (refine H1.out.mono ?_; rintro e w' ⟨rfl, d1, rfl⟩)
          go_ret
          exact ⟨ret_int HN.out.symm, d1, rfl⟩
      · obtain rfl : k = m := by omega
        have HN : Hid ((-1 : Int) = idxP l p 0 k) := Lib.hid (by rw [HA.out, Nat.sub_self]; rfl)
        go_wp2
        go_ret
        exact ⟨ret_int HN.out, lay_ex _ _⟩
set_option maxHeartbeats 1000000 in
theorem sl_ContainsFuncL (g : FuncId) (lb : List Value) (p : Int → Bool) (v : Value) (l : List Int) (w : World) (hv : Sl w v l)
    (eI : ∀ args w, (callFunc g args).run Try.prog w = .ok (.enter g args) w)
    (hf : ∀ i, i < l.length → ∀ d, Calls Try.prog g (.int .i64 (nth l i) :: lb).toArray (bw w d) fun e w' => e = .returned (.bool (p (nth l i))) ∧ ∃ d, w' = bw w d) :
    Calls Try.prog 19 #[v, .func (.func g) #[] lb.toArray] w fun e w' => e = .returned (.bool (l.any p)) ∧ ∃ d, w' = bw w d := by
  have H := Lib.hid (sl_IndexFuncL g lb p v l w hv eI hf)
  rw [← idxP_any l p]
  obtain ⟨a, cap, rfl, -⟩ := hv
  generalize l.length = m at *
  clear hf eI
  generalize idxP l p 0 m = I at *
  go_enter Try.func19, Try.ntmps19
  go_wp2_with (go_at_call 31; refine H.out.mono ?_; rintro e w' ⟨rfl, d1, rfl⟩)
  go_ret
  exact ⟨rfl, d1, rfl⟩

end Go.Proofs.Ytlkphcjlgbimkaa

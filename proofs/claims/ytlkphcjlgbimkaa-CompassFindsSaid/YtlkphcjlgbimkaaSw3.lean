/- compass.Swing: the errors ahead of the list; what a swing is, in plain words. -/
import Derived.Test.YtlkphcjlgbimkaaProg
import Derived.Test.YtlkphcjlgbimkaaLay
import Derived.Test.YtlkphcjlgbimkaaRegion
import Derived.Test.YtlkphcjlgbimkaaMix
import Derived.WalkKit
import Derived.WalkSpells
import Derived.WalkLawsBesides
import Derived.Lib.Hide
import Derived.BigQuiet
import Derived.Test.YtlkphcjlgbimkaaSw1
namespace Go.Proofs.Ytlkphcjlgbimkaa
open Go.RowKit

def swgR (h b : List Int) (B V : Int) : Bool := h.all headB && b.all headB && headB B && withB V 10800000
instance (l : Tl) : Decidable (OneH l) := by unfold OneH; infer_instance
/-- The error of a swing, and its table. -/
noncomputable def swgE (h b : List Int) (B V : Int) : Int :=
  if h.length ≠ b.length then 3 else if h.length = 0 then 14 else if swgR h b B V = false then 2
  else if OneH (entH h b B V h.length) then (if vB (srtH (entH h b B V h.length) h.length) = true then 0 else 1) else 10
noncomputable def swgL (h b : List Int) (B V : Int) : Tl := if swgE h b B V = 0 then srtH (entH h b B V h.length) h.length else []
def SwgP (w : World) (l : Tl) (c : Int) (e : Ending) (w' : World) : Prop := ∃ v d, e = .returned (.tuple #[v, .int .i64 c]) ∧ w' = bw w d ∧ SlG chR (bw w d) v l
theorem swgP_nil (w : World) (L : List (Obj ⊕ Ext)) (c : Int) : SwgP w [] c (.returned (.tuple #[.slice none 0 0, .int .i64 c])) (lay w L) := by
  obtain ⟨z, hz⟩ := lay_ex w L
  exact ⟨_, z, rfl, hz, SlG.nil _ _⟩
theorem any_head {l : List Int} : (l.any fun n => !headB n) = !l.all headB := by rw [List.not_all_eq_any_not]
theorem enters_Swing1 : ∀ args w, (callFunc 17 args).run Try.prog w = .ok (.enter 17 args) w := enters_of Try.func17 (by kernel_rfl) rfl
theorem comp_wrongs (v : Value) (l : List Int) (w : World) (h : Sl w v l) :
    Calls Try.prog 19 #[v, .func (.func 17) #[] #[]] w fun e w' => e = .returned (.bool (!l.all headB)) ∧ ∃ d, w' = bw w d := by
  have := sl_ContainsFuncL 17 [] (fun n => !headB n) v l w h enters_Swing1 (fun i _ d => (comp_Swing1 (nth l i) (bw w d)).mono fun _ _ ⟨h1, h2⟩ => ⟨h1, d, h2⟩)
  rw [any_head] at this
  exact this
set_option maxHeartbeats 1000000 in
theorem comp_Swing_bad (v0 v1 : Value) (h b : List Int) (B V : Int) (w : World) (h0 : Sl w v0 h) (h1 : Sl w v1 b) (hbad : h.length ≠ b.length ∨ h.length = 0 ∨ swgR h b B V = false) :
    Calls Try.prog 6 #[v0, v1, .int .i64 B, .int .i64 V] w (SwgP w (swgL h b B V) (swgE h b B V)) := by
  have H0 := Lib.hid h0
  have H1 := Lib.hid h1
  obtain ⟨a0, c0, rfl, -⟩ := h0
  obtain ⟨a1, c1, rfl, -⟩ := h1
  have hC0 := Lib.hid (fun W (q : Sl W (.slice a0 h.length c0) h) => comp_wrongs _ h W q)
  have hC1 := Lib.hid (fun W (q : Sl W (.slice a1 b.length c1) b) => comp_wrongs _ b W q)
  have hE : swgE h b B V = if h.length ≠ b.length then 3 else if h.length = 0 then 14 else if swgR h b B V = false then 2
    else if OneH (entH h b B V h.length) then (if vB (srtH (entH h b B V h.length) h.length) = true then 0 else 1) else 10 := rfl
  have hL : swgL h b B V = if swgE h b B V = 0 then srtH (entH h b B V h.length) h.length else [] := rfl
  by_cases e1 : h.length = b.length
  · rw [if_neg (fun h => h e1)] at hE
    by_cases e2 : h.length = 0
    · rw [if_pos e2] at hE
      rw [hL, hE, if_neg (by decide)]
      have t1 : ((h.length : Int) == (b.length : Int)) = true := beq_iff_eq.2 (by omega)
      have t2 : ((h.length : Int) == 0) = true := beq_iff_eq.2 (by omega)
      have t3 : ((h.length : Int) != (b.length : Int)) = false := by rw [bne, t1]; rfl
      clear hL hE hbad e1 e2
      generalize h.length = m at *
      generalize b.length = q at *
      refine lay_start ?_
      go_enter Try.func6, Try.ntmps6
      go_wp2
      exact bodyPost_ret (v := .tuple #[.slice none 0 0, .int .i64 14]) (by simp [results, Try.results6, go_sem]) rfl (swgP_nil w [] 14)
    · rw [if_neg e2] at hE
      have e3 : swgR h b B V = false := by
        rcases hbad with h | h | h
        · exact absurd e1 h
        · exact absurd h e2
        · exact h
      rw [if_pos e3] at hE
      rw [hL, hE, if_neg (by decide)]
      have t2 : ((h.length : Int) == 0) = false := beq_eq_false_iff_ne.2 (by omega)
      clear hL hE hbad
      unfold swgR at e3
      rw [← e1] at H1 hC1 ⊢
      generalize h.length = m at *
      clear e1 e2
      generalize h.all headB = A0 at *
      generalize b.all headB = A1 at *
      generalize hA2 : headB B = A2 at *
      generalize hA3 : withB V 10800000 = A3 at *
      have HB : Hid (∀ W, Calls Try.prog 17 #[.int .i64 B] W fun e w' => e = .returned (.bool (!A2)) ∧ w' = W) := Lib.hid (fun W => by rw [← hA2]; exact comp_Swing1 B W)
      have HV : Hid (∀ W, Calls Try.prog 20 #[.int .i64 V, .int .i64 10800000] W fun e w' => e = .returned (.bool A3) ∧ w' = W) := Lib.hid (fun W => by rw [← hA3]; exact comp_within V 10800000 W (by omega) (by omega))
      clear hA2 hA3
      cases A0
      · clear e3
        refine lay_start ?_
        go_enter Try.func6, Try.ntmps6
        go_wp2_with (first | (go_at_call 19; with_reducible refine (hC0.out _ (H0.out.lay _)).mono ?_; rintro e w' ⟨rfl, d1, rfl⟩))
        exact bodyPost_ret (v := .tuple #[.slice none 0 0, .int .i64 2]) (by simp [results, Try.results6, go_sem]) rfl (swgP_nil w _ 2)
      · cases A1
        · clear e3
          refine lay_start ?_
          go_enter Try.func6, Try.ntmps6
          go_wp2_with (first | (go_at_call 19; first | (with_reducible refine (hC0.out _ (H0.out.lay _)).mono ?_; rintro e w' ⟨rfl, d1, rfl⟩) | (with_reducible refine (hC1.out _ (H1.out.lay _)).mono ?_; rintro e w' ⟨rfl, d2, rfl⟩)))
          exact bodyPost_ret (v := .tuple #[.slice none 0 0, .int .i64 2]) (by simp [results, Try.results6, go_sem]) rfl (swgP_nil w _ 2)
        · cases A2
          · clear e3
            refine lay_start ?_
            go_enter Try.func6, Try.ntmps6
            go_wp2_with (first | (go_at_call 19; first | (with_reducible refine (hC0.out _ (H0.out.lay _)).mono ?_; rintro e w' ⟨rfl, d1, rfl⟩) | (with_reducible refine (hC1.out _ (H1.out.lay _)).mono ?_; rintro e w' ⟨rfl, d2, rfl⟩)) | (go_at_call 17; refine (HB.out _).mono ?_; rintro e w' ⟨rfl, rfl⟩) | (go_at_call 20; refine (HV.out _).mono ?_; rintro e w' ⟨rfl, rfl⟩))
            exact bodyPost_ret (v := .tuple #[.slice none 0 0, .int .i64 2]) (by simp [results, Try.results6, go_sem]) rfl (swgP_nil w _ 2)
          · cases A3
            · refine lay_start ?_
              go_enter Try.func6, Try.ntmps6
              go_wp2_with (first | (go_at_call 19; first | (with_reducible refine (hC0.out _ (H0.out.lay _)).mono ?_; rintro e w' ⟨rfl, d1, rfl⟩) | (with_reducible refine (hC1.out _ (H1.out.lay _)).mono ?_; rintro e w' ⟨rfl, d2, rfl⟩)) | (go_at_call 17; refine (HB.out _).mono ?_; rintro e w' ⟨rfl, rfl⟩) | (go_at_call 20; refine (HV.out _).mono ?_; rintro e w' ⟨rfl, rfl⟩))
              exact bodyPost_ret (v := .tuple #[.slice none 0 0, .int .i64 2]) (by simp [results, Try.results6, go_sem]) rfl (swgP_nil w _ 2)
            · cases e3
  · rw [if_pos e1] at hE
    rw [hL, hE, if_neg (by decide)]
    have t1 : ((h.length : Int) == (b.length : Int)) = false := beq_eq_false_iff_ne.2 (by omega)
    have t3 : ((h.length : Int) != (b.length : Int)) = true := by rw [bne, t1]; rfl
    clear hL hE hbad e1
    generalize h.length = m at *
    generalize b.length = q at *
    refine lay_start ?_
    go_enter Try.func6, Try.ntmps6
    go_wp2
    exact bodyPost_ret (v := .tuple #[.slice none 0 0, .int .i64 3]) (by simp [results, Try.results6, go_sem]) rfl (swgP_nil w [] 3)
end Go.Proofs.Ytlkphcjlgbimkaa

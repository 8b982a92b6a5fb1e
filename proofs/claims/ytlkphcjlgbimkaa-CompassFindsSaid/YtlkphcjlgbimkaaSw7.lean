/- slices.Equal at deviation entries; CompassSwings walked. -/
import Derived.Test.YtlkphcjlgbimkaaProg
import Derived.Test.YtlkphcjlgbimkaaLay
import Derived.Test.YtlkphcjlgbimkaaRegion
import Derived.Test.YtlkphcjlgbimkaaMix
import Derived.WalkKit
import Derived.WalkSpells
import Derived.WalkLawsBesides
import Derived.Lib.Hide
import Derived.BigQuiet
import Derived.Test.YtlkphcjlgbimkaaSw2
import Derived.Test.YtlkphcjlgbimkaaSw6
namespace Go.Proofs.Ytlkphcjlgbimkaa
open Go.RowKit

theorem tl_split {a b : Tl} {n : Nat} (ha : a.length = n) (hb : b.length = n) : (∀ i, i < n → hd a i = hd b i ∧ dv a i = dv b i) ↔ a = b := by
  constructor
  · intro h
    apply List.ext_getElem?
    intro i
    by_cases hi : i < n
    · rw [pair_eq (by omega), pair_eq (by omega), (h i hi).1, (h i hi).2]
    · rw [List.getElem?_eq_none (by omega), List.getElem?_eq_none (by omega)]
  · rintro rfl i _; exact ⟨rfl, rfl⟩
def EqPost (w : World) (a b : Tl) (e : Ending) (w' : World) : Prop := e = .returned (.bool (decide (a = b))) ∧ ∃ d, w' = bw w d
theorem eqPost_no {w : World} {a b : Tl} (h : a ≠ b) (L : List (Obj ⊕ Ext)) : EqPost w a b (.returned (.bool false)) (lay w L) := ⟨by rw [decide_eq_false h], lay_ex _ _⟩
theorem eqPost_yes {w : World} {a b : Tl} (h : a = b) (L : List (Obj ⊕ Ext)) : EqPost w a b (.returned (.bool true)) (lay w L) := ⟨by rw [decide_eq_true h], lay_ex _ _⟩
set_option maxHeartbeats 1000000 in
theorem sl_EqualC (v1 v2 : Value) (l1 l2 : Tl) (w : World) (h1 : SlG chR w v1 l1) (h2 : SlG chR w v2 l2) :
    Calls Try.prog 8 #[v1, v2] w (EqPost w l1 l2) := by
  by_cases hlen : l1.length = l2.length
  · by_cases hz : l1.length = 0
    · have e1 : l1 = [] := List.eq_nil_of_length_eq_zero hz
      have e2 : l2 = [] := List.eq_nil_of_length_eq_zero (by omega)
      subst e1 e2
      obtain ⟨a1, c1, rfl⟩ := h1.form
      obtain ⟨a2, c2, rfl⟩ := h2.form
      have HY := Lib.hid (fun L => eqPost_yes (w := w) (rfl : ([] : Tl) = []) L)
      refine lay_start ?_
      go_enter Try.func8, Try.ntmps8
      go_wp2_with fail
      refine wp_loop_rounds 1 ?_
      rw [rounds_succ]
      go_wp2_with fail
      go_ret
      exact HY.out _
    · obtain ⟨b1, o1, c1, rfl, hcc, hb1, hr1⟩ := h1.open (by omega)
      obtain ⟨b2, o2, c2, rfl, -, hb2, hr2⟩ := h2.open (by omega)
      have HR1 : Hid (∀ i, i < l1.length → w.cell? ⟨b1, o1 + i * 2, none⟩ = some (.int .i64 (hd l1 i)) ∧ w.cell? ⟨b1, o1 + i * 2 + 1, none⟩ = some (.int .i64 (dv l1 i))) := Lib.hid (fun i hi => ⟨hr1 i _ (pair_eq hi) 0 _ rfl, hr1 i _ (pair_eq hi) 1 _ rfl⟩)
      have HR2 : Hid (∀ i, i < l2.length → w.cell? ⟨b2, o2 + i * 2, none⟩ = some (.int .i64 (hd l2 i)) ∧ w.cell? ⟨b2, o2 + i * 2 + 1, none⟩ = some (.int .i64 (dv l2 i))) := Lib.hid (fun i hi => ⟨hr2 i _ (pair_eq hi) 0 _ rfl, hr2 i _ (pair_eq hi) 1 _ rfl⟩)
      have HSp := Lib.hid (tl_split rfl hlen.symm)
      rw [← hlen] at HR2 ⊢
      obtain ⟨n, hn⟩ : ∃ n, l1.length = n := ⟨_, rfl⟩
      rw [hn] at HR1 HR2 HSp hz hcc ⊢
      clear hr1 hr2 hlen hn h1 h2
      refine lay_start ?_
      go_enter Try.func8, Try.ntmps8
      go_wp2_with fail
      go_loopw [13] (fun v13 wr' => ∃ (i : Nat) (dd : Ext), i ≤ n ∧ v13 = .int .i64 (i : Int) ∧ wr' = lay w [.inr dd] ∧ ∀ j, j < i → hd l1 j = hd l2 j ∧ dv l1 j = dv l2 j) (fun v13 _ => n - (intOf v13).toNat)
      case atStart => exact ⟨0, noExt _, Nat.zero_le _, rfl, (bw_noExt _).symm, fun j hj => by omega⟩
      case round =>
        obtain ⟨i, dd, hi, rfl, rfl, hsame⟩ := hrel
        have HSm := Lib.hid hsame
        clear hsame
        by_cases hlt : i < n
        · obtain ⟨c0, c1⟩ := HR1.out i hlt
          obtain ⟨c2, c3⟩ := HR2.out i hlt
          have x1 : (i : Int) < (n : Int) := by omega
          have x0 : (0 : Int) ≤ (i : Int) := by omega
          by_cases he : hd l1 i = hd l2 i ∧ dv l1 i = dv l2 i
          · have HSm2 : Hid (∀ j, j < i + 1 → hd l1 j = hd l2 j ∧ dv l1 j = dv l2 j) := Lib.hid (fun j hj => by
              by_cases e : j = i
              · subst e; exact he
              · exact HSm.out j (by omega))
            obtain ⟨g1, g2⟩ := he
            rw [← g1] at c2
            rw [← g2] at c3
            clear g1 g2
            generalize hd l1 i = p at *
            generalize dv l1 i = q at *
            go_wp2_with fail
            refine region_bw (by kernel_rfl) (by kernel_rfl) ?_
            repeat (go_big_quiet_step ((first | fail)))
            refine wpQuiet_nil ?_
            rintro w' ⟨d, rfl⟩
            rw [lay_bw]
            go_wp2_with fail
            go_roundw
            case rel => exact ⟨i + 1, _, by omega, by go_num, Classical.choose_spec (lay_fold w [_, _] _), HSm2.out⟩
            case measure => simp [intOf]; omega
          · have hne : l1 ≠ l2 := fun e => he ((HSp.out.2 e) i hlt)
            have HNo := Lib.hid (fun L => eqPost_no (w := w) hne L)
            by_cases g : hd l1 i = hd l2 i
            · have t1 : (dv l1 i == dv l2 i) = false := beq_eq_false_iff_ne.2 (fun h => he ⟨g, h⟩)
              rw [← g] at c2
              clear hne he g
              generalize hd l1 i = p at *
              generalize dv l1 i = q at *
              generalize dv l2 i = q2 at *
              go_wp2_with fail
              refine region_bw (by kernel_rfl) (by kernel_rfl) ?_
              repeat (go_big_quiet_step ((first | fail)))
              refine wpQuiet_nil ?_
              rintro w' ⟨d, rfl⟩
              rw [lay_bw]
              go_wp2_with fail
              go_ret
              exact HNo.out _
            · have t1 : (hd l1 i == hd l2 i) = false := beq_eq_false_iff_ne.2 g
              clear hne he g
              generalize hd l1 i = p at *
              generalize dv l1 i = q at *
              generalize hd l2 i = p2 at *
              generalize dv l2 i = q2 at *
              go_wp2_with fail
              refine region_bw (by kernel_rfl) (by kernel_rfl) ?_
              repeat (go_big_quiet_step ((first | fail)))
              refine wpQuiet_nil ?_
              rintro w' ⟨d, rfl⟩
              rw [lay_bw]
              go_wp2_with fail
              go_ret
              exact HNo.out _
        · have HY := Lib.hid (fun L => eqPost_yes (w := w) (HSp.out.1 (fun j hj => HSm.out j (by omega))) L)
          obtain rfl : i = n := by omega
          have x1 : ¬ (i : Int) < (i : Int) := by omega
          go_wp2
          go_ret
          exact HY.out _
  · obtain ⟨a1, c1, rfl⟩ := h1.form
    obtain ⟨a2, c2, rfl⟩ := h2.form
    have t1 : ((l1.length : Int) == (l2.length : Int)) = false := beq_eq_false_iff_ne.2 (by omega)
    have t3 : ((l1.length : Int) != (l2.length : Int)) = true := by rw [bne, t1]; rfl
    have HNo := Lib.hid (fun L => eqPost_no (w := w) (fun e => hlen (congrArg List.length e)) L)
    clear h1 h2 hlen t1
    generalize l1.length = m at *
    generalize l2.length = q at *
    refine lay_start ?_
    go_enter Try.func8, Try.ntmps8
    go_wp2
    go_ret
    exact HNo.out _
theorem sortH_holds : SortH := fun W0 v l w hw h hl hb => comp_sort W0 v l w hw h hl hb
theorem comp_Swing (v0 v1 : Value) (h b : List Int) (B V : Int) (w : World) (h0 : Sl w v0 h) (h1 : Sl w v1 b) (e3 : h.length ≤ 100) :
    Calls Try.prog 6 #[v0, v1, .int .i64 B, .int .i64 V] w (SwgP w (swgL h b B V) (swgE h b B V)) := by
  by_cases hb : h.length ≠ b.length ∨ h.length = 0 ∨ swgR h b B V = false
  · exact comp_Swing_bad v0 v1 h b B V w h0 h1 hb
  · exact comp_Swing_main (Lib.hid sortH_holds) v0 v1 h b B V w h0 h1 (by omega) (by omega) e3 (by
      cases e : swgR h b B V
      · exact absurd (.inr (.inr e)) hb
      · rfl)
theorem ref_Swing (v0 v1 : Value) (h b : List Int) (B V : Int) (w : World) (h0 : Sl w v0 h) (h1 : Sl w v1 b) (e3 : h.length ≤ 100) :
    Calls Try.prog 7 #[v0, v1, .int .i64 B, .int .i64 V] w (SwgP w (swgL h b B V) (swgE h b B V)) := by
  by_cases hb : h.length ≠ b.length ∨ h.length = 0 ∨ (headB B && withB V 10800000) = false
  · exact ref_Swing_bad v0 v1 h b B V w h0 h1 hb
  · exact ref_Swing_main v0 v1 h b B V w h0 h1 (by omega) (by omega) e3 (by
      cases e : (headB B && withB V 10800000)
      · exact absurd (.inr (.inr e)) hb
      · rfl)
set_option maxHeartbeats 1000000 in
set_option maxRecDepth 100000 in
theorem law34_Swings (v0 : Value) (h : List Int) {w : World} (h0 : Sl w v0 h) (v1 : Value) (b : List Int) (h1 : Sl w v1 b) (B : Int) (_ : (Lit.int .i64 B).wf = true) (V : Int) (_ : (Lit.int .i64 V).wf = true) :
    Calls Try.prog 3 #[v0, v1, .int .i64 B, .int .i64 V] w fun e w' => e = .returned (.bool true) ∧ ∃ d, w' = bw w d := by
  have H0 := Lib.hid h0
  have H1 := Lib.hid h1
  obtain ⟨a0, c0, rfl, -⟩ := h0
  obtain ⟨a1, c1, rfl, -⟩ := h1
  by_cases hbig : 100 < h.length ∨ 100 < b.length
  · have hc : decide ((100 : Int) < (h.length : Int)) = true ∨ (decide ((100 : Int) < (h.length : Int)) = false ∧ decide ((100 : Int) < (b.length : Int)) = true) := by
      by_cases e : 100 < h.length
      · exact .inl (decide_eq_true (by omega))
      · exact .inr ⟨decide_eq_false (by omega), decide_eq_true (by omega)⟩
    generalize h.length = m at *
    generalize b.length = q at *
    clear H0 H1
    rcases hc with t1 | ⟨t1, t2⟩
    all_goals
      refine lay_start ?_
      go_enter Try.func3, Try.ntmps3
      go_wp2_with (go_at_call 5; refine (law_awake _).mono ?_; rintro e w' ⟨rfl, d, rfl⟩)
      go_ret
      exact ⟨rfl, lay_ex _ _⟩
  · have t1 : decide ((100 : Int) < (h.length : Int)) = false := decide_eq_false (by omega)
    have t2 : decide ((100 : Int) < (b.length : Int)) = false := decide_eq_false (by omega)
    have HA := Lib.hid (fun W (q0 : Sl W (.slice a0 h.length c0) h) (q1 : Sl W (.slice a1 b.length c1) b) => comp_Swing _ _ h b B V W q0 q1 (by omega))
    have HB := Lib.hid (fun W (q0 : Sl W (.slice a0 h.length c0) h) (q1 : Sl W (.slice a1 b.length c1) b) => ref_Swing _ _ h b B V W q0 q1 (by omega))
    generalize swgL h b B V = L at *
    generalize swgE h b B V = C at *
    generalize h.length = m at *
    generalize b.length = q at *
    refine lay_start ?_
    go_enter Try.func3, Try.ntmps3
    go_wp2_with (go_at_call 5; refine (law_awake _).mono ?_; rintro e w' ⟨rfl, d, rfl⟩)
    refine (HA.out _ (H0.out.lay _) (H1.out.lay _)).mono ?_
    rintro e w' ⟨v3, d3, rfl, rfl, s3⟩
    rw [lay_bw] at s3 ⊢
    have S3 := Lib.hid s3
    clear s3
    go_wp2_with fail
    refine (HB.out _ (H0.out.lay _) (H1.out.lay _)).mono ?_
    rintro e w' ⟨v4, d4, rfl, rfl, s4⟩
    rw [lay_bw] at s4 ⊢
    have S4 := Lib.hid s4
    clear s4
    go_wp2_with fail
    refine (sl_EqualC _ _ L L _ (slG_on (A := [_]) S3.out) S4.out).mono ?_
    rintro e w' ⟨rfl, d5, rfl⟩
    rw [lay_bw, decide_eq_true rfl]
    go_wp2
    go_ret
    exact ⟨rfl, lay_ex _ _⟩
end Go.Proofs.Ytlkphcjlgbimkaa

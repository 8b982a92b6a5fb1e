/- CompassFinds walked. -/
import Derived.Test.YtlkphcjlgbimkaaProg
import Derived.Test.YtlkphcjlgbimkaaLay
import Derived.Test.YtlkphcjlgbimkaaRegion
import Derived.Test.YtlkphcjlgbimkaaMix
import Derived.WalkKit
import Derived.WalkSpells
import Derived.WalkLawsBesides
import Derived.Lib.Hide
import Derived.BigQuiet
import Derived.Test.YtlkphcjlgbimkaaFi2
namespace Go.Proofs.Ytlkphcjlgbimkaa
open Go.RowKit

theorem tabs_form {w : World} {v : Value} {l : Tl} (h : Tabs w v l) : ∃ a c, v = .slice a l.length c := by
  obtain ⟨a, c, e, _⟩ := h; exact ⟨a, c, e⟩
theorem tabs_open {w : World} {v : Value} {l : Tl} (h : Tabs w v l) (hl : 0 < l.length) : ∃ b o c, v = .slice (some ⟨b, o, none⟩) l.length c ∧ l.length ≤ 9223372036854775807 ∧ b < w.heap.size ∧
    ∀ i, i < l.length → w.cell? ⟨b, o + i * 2, none⟩ = some (.int .i64 (hd l i)) ∧ w.cell? ⟨b, o + i * 2 + 1, none⟩ = some (.int .i64 (dv l i)) := by
  obtain ⟨a, c, e, h1, h2⟩ := h
  obtain ⟨b, o, rfl, hb, hr⟩ := h2 (by intro e; rw [e] at hl; exact Nat.lt_irrefl 0 hl)
  exact ⟨b, o, c, e, h1, hb, fun i hi => ⟨(hr i hi).1, (hr i hi).2.1⟩⟩
set_option maxHeartbeats 1000000 in
theorem sl_EqualTb (v1 v2 : Value) (l1 l2 : Tl) (w : World) (h1 : Tabs w v1 l1) (h2 : Tabs w v2 l2) :
    Calls Try.prog 8 #[v1, v2] w (EqPost w l1 l2) := by
  by_cases hlen : l1.length = l2.length
  · by_cases hz : l1.length = 0
    · have e1 : l1 = [] := List.eq_nil_of_length_eq_zero hz
      have e2 : l2 = [] := List.eq_nil_of_length_eq_zero (by omega)
      subst e1 e2
      obtain ⟨a1, c1, rfl⟩ := tabs_form h1
      obtain ⟨a2, c2, rfl⟩ := tabs_form h2
      have HY := Lib.hid (fun L => eqPost_yes (w := w) (rfl : ([] : Tl) = []) L)
      refine lay_start ?_
      go_enter Try.func8, Try.ntmps8
      go_wp2_with fail
      refine wp_loop_rounds 1 ?_
      rw [rounds_succ]
      go_wp2_with fail
      go_ret
      exact HY.out _
    · obtain ⟨b1, o1, c1, rfl, hcc, hb1, hr1⟩ := tabs_open h1 (by omega)
      obtain ⟨b2, o2, c2, rfl, -, hb2, hr2⟩ := tabs_open h2 (by omega)
      have HR1 : Hid (∀ i, i < l1.length → w.cell? ⟨b1, o1 + i * 2, none⟩ = some (.int .i64 (hd l1 i)) ∧ w.cell? ⟨b1, o1 + i * 2 + 1, none⟩ = some (.int .i64 (dv l1 i))) := Lib.hid hr1
      have HR2 : Hid (∀ i, i < l2.length → w.cell? ⟨b2, o2 + i * 2, none⟩ = some (.int .i64 (hd l2 i)) ∧ w.cell? ⟨b2, o2 + i * 2 + 1, none⟩ = some (.int .i64 (dv l2 i))) := Lib.hid hr2
      have HSp := Lib.hid (tl_split rfl hlen.symm)
      rw [← hlen] at HR2 ⊢
      obtain ⟨n, hn⟩ : ∃ n, l1.length = n := ⟨_, rfl⟩
      rw [hn] at HR1 HR2 HSp hz hcc ⊢
      clear hr1 hr2 hlen hn h1 h2
      refine lay_start ?_
      go_enter Try.func8, Try.ntmps8
      go_wp2_with fail
      go_loopw [13] (fun v13 wr' => ∃ (i : Nat) (dd : Ext), i ≤ n ∧ v13 = .int .i64 (i : Int) ∧ wr' = lay w [.inr dd] ∧ ∀ j, j < i → hd l1 j = hd l2 j ∧ dv l1 j = dv l2 j) (fun v13 _ => n - (intOf v13).toNat)
      case atStart => exact ⟨0, noExt _, Nat.zero_le _, rfl, (bw_noExt _).symm, fun j hj => by omega⟩
      case round =>
        obtain ⟨i, dd, hi, rfl, rfl, hsame⟩ := hrel
        have HSm := Lib.hid hsame
        clear hsame
        by_cases hlt : i < n
        · obtain ⟨c0, c1⟩ := HR1.out i hlt
          obtain ⟨c2, c3⟩ := HR2.out i hlt
          have x1 : (i : Int) < (n : Int) := by omega
          have x0 : (0 : Int) ≤ (i : Int) := by omega
          by_cases he : hd l1 i = hd l2 i ∧ dv l1 i = dv l2 i
          · have HSm2 : Hid (∀ j, j < i + 1 → hd l1 j = hd l2 j ∧ dv l1 j = dv l2 j) := Lib.hid (fun j hj => by
              by_cases e : j = i
              · subst e; exact he
              · exact HSm.out j (by omega))
            obtain ⟨g1, g2⟩ := he
            rw [← g1] at c2
            rw [← g2] at c3
            clear g1 g2
            generalize hd l1 i = p at *
            generalize dv l1 i = q at *
            go_wp2_with fail
            refine region_bw (by kernel_rfl) (by kernel_rfl) ?_
            repeat (go_big_quiet_step ((first | fail)))
            refine wpQuiet_nil ?_
            rintro w' ⟨d, rfl⟩
            rw [lay_bw]
            go_wp2_with fail
            go_roundw
            case rel => exact ⟨i + 1, _, by omega, by go_num, Classical.choose_spec (lay_fold w [_, _] _), HSm2.out⟩
            case measure => simp [intOf]; omega
          · have hne : l1 ≠ l2 := fun e => he ((HSp.out.2 e) i hlt)
            have HNo := Lib.hid (fun L => eqPost_no (w := w) hne L)
            by_cases g : hd l1 i = hd l2 i
            · have t1 : (dv l1 i == dv l2 i) = false := beq_eq_false_iff_ne.2 (fun h => he ⟨g, h⟩)
              rw [← g] at c2
              clear hne he g
              generalize hd l1 i = p at *
              generalize dv l1 i = q at *
              generalize dv l2 i = q2 at *
              go_wp2_with fail
              refine region_bw (by kernel_rfl) (by kernel_rfl) ?_
              repeat (go_big_quiet_step ((first | fail)))
              refine wpQuiet_nil ?_
              rintro w' ⟨d, rfl⟩
              rw [lay_bw]
              go_wp2_with fail
              go_ret
              exact HNo.out _
            · have t1 : (hd l1 i == hd l2 i) = false := beq_eq_false_iff_ne.2 g
              clear hne he g
              generalize hd l1 i = p at *
              generalize dv l1 i = q at *
              generalize hd l2 i = p2 at *
              generalize dv l2 i = q2 at *
              go_wp2_with fail
              refine region_bw (by kernel_rfl) (by kernel_rfl) ?_
              repeat (go_big_quiet_step ((first | fail)))
              refine wpQuiet_nil ?_
              rintro w' ⟨d, rfl⟩
              rw [lay_bw]
              go_wp2_with fail
              go_ret
              exact HNo.out _
        · have HY := Lib.hid (fun L => eqPost_yes (w := w) (HSp.out.1 (fun j hj => HSm.out j (by omega))) L)
          obtain rfl : i = n := by omega
          have x1 : ¬ (i : Int) < (i : Int) := by omega
          go_wp2
          go_ret
          exact HY.out _
  · obtain ⟨a1, c1, rfl⟩ := tabs_form h1
    obtain ⟨a2, c2, rfl⟩ := tabs_form h2
    have t1 : ((l1.length : Int) == (l2.length : Int)) = false := beq_eq_false_iff_ne.2 (by omega)
    have t3 : ((l1.length : Int) != (l2.length : Int)) = true := by rw [bne, t1]; rfl
    have HNo := Lib.hid (fun L => eqPost_no (w := w) (fun e => hlen (congrArg List.length e)) L)
    clear h1 h2 hlen t1
    generalize l1.length = m at *
    generalize l2.length = q at *
    refine lay_start ?_
    go_enter Try.func8, Try.ntmps8
    go_wp2
    go_ret
    exact HNo.out _

def farB (v0 v1 : Int) : Bool := decide (-274877906944 ≤ v0) && decide (v1 ≤ 274877906944)
set_option maxHeartbeats 400000 in
theorem ref34_NearF (v0 v1 : Int) (w : World) :
    Calls Try.prog 11 #[(.agg #[.int .i64 (v0), .int .i64 (v1)])] w fun e w' => e = .returned (.bool (farB v0 v1)) ∧ ∃ d, w' = bw w d := by
  refine lay_start ?_
  go_enter Try.func11, Try.ntmps11
  go_wp2
  all_goals go_ret
  all_goals exact ⟨ret_bool (by first | (simp [farB, *]; done) | (simp [farB, *]; omega)), lay_ex _ _⟩
set_option maxHeartbeats 4000000 in
set_option maxRecDepth 100000 in
theorem law34_Finds_out (v : Value) (l : Tl) {w : World} (hv : Tabs w v l) (B V z0 z1 : Int)
    (h : l.length = 0 ∨ vB l = false ∨ B < 0 ∨ 21600000 ≤ B ∨ V < -10800000 ∨ 10800000 < V ∨ validB z0 z1 = false ∨ farB z0 z1 = false) :
    Calls Try.prog 4 #[v, .int .i64 B, .int .i64 V, (.agg #[.int .i64 (z0), .int .i64 (z1)])] w fun e w' => e = .returned (.bool true) ∧ ∃ d, w' = bw w d := by
  have HV := Lib.hid hv
  obtain ⟨a, c, rfl⟩ := tabs_form hv
  have HVa := Lib.hid (fun W (q : Tabs W (.slice a l.length c) l) => comp_Valid _ l W q)
  have HZ := Lib.hid (fun W => ref05_Valid z0 z1 W)
  have HN := Lib.hid (fun W => ref34_NearF z0 z1 W)
  generalize vB l = P1 at *
  generalize validB z0 z1 = P2 at *
  generalize farB z0 z1 = P3 at *
  have hc : l.length = 0 ∨ (l.length ≠ 0 ∧ P1 = false) ∨ (l.length ≠ 0 ∧ P1 = true ∧ B < 0) ∨ (l.length ≠ 0 ∧ P1 = true ∧ ¬ B < 0 ∧ 21600000 ≤ B) ∨ (l.length ≠ 0 ∧ P1 = true ∧ ¬ B < 0 ∧ ¬ 21600000 ≤ B ∧ V < -10800000) ∨
      (l.length ≠ 0 ∧ P1 = true ∧ ¬ B < 0 ∧ ¬ 21600000 ≤ B ∧ ¬ V < -10800000 ∧ 10800000 < V) ∨ (l.length ≠ 0 ∧ P1 = true ∧ ¬ B < 0 ∧ ¬ 21600000 ≤ B ∧ ¬ V < -10800000 ∧ ¬ 10800000 < V ∧ P2 = false) ∨ (l.length ≠ 0 ∧ P1 = true ∧ ¬ B < 0 ∧ ¬ 21600000 ≤ B ∧ ¬ V < -10800000 ∧ ¬ 10800000 < V ∧ P2 = true ∧ P3 = false) := by
    by_cases q0 : l.length = 0
    · exact .inl q0
    cases P1
    · exact .inr (.inl ⟨q0, rfl⟩)
    by_cases q1 : B < 0
    · exact .inr (.inr (.inl ⟨q0, rfl, q1⟩))
    by_cases q2 : 21600000 ≤ B
    · exact .inr (.inr (.inr (.inl ⟨q0, rfl, q1, q2⟩)))
    by_cases q3 : V < -10800000
    · exact .inr (.inr (.inr (.inr (.inl ⟨q0, rfl, q1, q2, q3⟩))))
    by_cases q4 : 10800000 < V
    · exact .inr (.inr (.inr (.inr (.inr (.inl ⟨q0, rfl, q1, q2, q3, q4⟩)))))
    cases P2
    · exact .inr (.inr (.inr (.inr (.inr (.inr (.inl ⟨q0, rfl, q1, q2, q3, q4, rfl⟩))))))
    cases P3
    · exact .inr (.inr (.inr (.inr (.inr (.inr (.inr ⟨q0, rfl, q1, q2, q3, q4, rfl, rfl⟩))))))
    rcases h with h | h | h | h | h | h | h | h
    · exact absurd h q0
    · cases h
    · exact absurd h q1
    · exact absurd h q2
    · exact absurd h q3
    · exact absurd h q4
    · cases h
    · cases h
  clear h hv
  generalize l.length = m at *
  have hm : m ≠ 0 → ((m : Int) == 0) = false := fun h => beq_eq_false_iff_ne.2 (by omega)
  rcases hc with e0 | ⟨e0, rfl⟩ | ⟨e0, rfl, e1⟩ | ⟨e0, rfl, e1, e2⟩ | ⟨e0, rfl, e1, e2, e3⟩ | ⟨e0, rfl, e1, e2, e3, e4⟩ | ⟨e0, rfl, e1, e2, e3, e4, rfl⟩ | ⟨e0, rfl, e1, e2, e3, e4, rfl, rfl⟩
  · subst e0
    clear hm
    refine lay_start ?_
    go_enter Try.func4, Try.ntmps4
    go_wp2_with (go_at_call 5; refine (law_awake _).mono ?_; rintro e w' ⟨rfl, d, rfl⟩)
    go_ret
    exact ⟨rfl, lay_ex _ _⟩
  all_goals
    replace hm := hm e0
    clear e0
    refine lay_start ?_
    go_enter Try.func4, Try.ntmps4
    go_wp2_with (first | (go_at_call 5; refine (law_awake _).mono ?_; rintro e w' ⟨rfl, d, rfl⟩) | (go_at_call 9; refine (HVa.out _ (tabs_lay HV.out _)).mono ?_; rintro e w' ⟨rfl, d, rfl⟩) | (go_at_call 10; refine (HZ.out _).mono ?_; rintro e w' ⟨rfl, d, rfl⟩) | (go_at_call 11; refine (HN.out _).mono ?_; rintro e w' ⟨rfl, d, rfl⟩))
    go_ret
    exact ⟨rfl, lay_ex _ _⟩
end Go.Proofs.Ytlkphcjlgbimkaa

/- Contracts and plain laws, several texts in one: Sg4 -/
import Derived.Test.YtejmgdpgngjiiaaGreatProg
import Derived.WalkKit
import Derived.WalkSpells
import Derived.WalkLawsBesides
import Derived.Lib.Hide
import Derived.BigQuiet
import Derived.Test.YtejmgdpgngjiiaaGreatBAA
import Derived.Test.YtejmgdpgngjiiaaGreatBAB
import Derived.Test.YtejmgdpgngjiiaaGreatBAS
/- average.given. -/
namespace Go.Proofs.YtejmgdpgngjiiaaGreat
open Go.RowKit

instance : Inhabited SgV := ⟨⟨⟨#[]⟩, 0, 0, 0, 0, 0, 0, 0, 0, 0, 0⟩⟩
def fstS (l : List SgV) : SgV := l[0]?.getD default
def farS (l : List SgV) (s : SgV) : Bool := decide (86400000 < max (midI s - midI (fstS l)) (-(midI s - midI (fstS l))))
/-- The error of sights, a slope, and a factor. -/
noncomputable def gvnE (l : List SgV) (n d f : Int) : Int :=
  if (l.any fun s => !sgB s) = true ∨ fracB n d = false then 1 else if l.length < 1 ∨ 40 < l.length then 3
  else if slpB n d = false ∨ f < 1 ∨ 100 < f then 2 else if (l.any fun s => !likB s (fstS l)) = true then 11
  else if (l.any fun s => farS l s) = true then 20 else 0
theorem box_cell2 {W : World} {p : Nat} {v : Value} {te : TypeId} (h : W.heap[p]? = some (.cells #[v] te (0, 0))) (d : Ext) : p < (bw W d).heap.size ∧ (bw W d).cell? ⟨p, 0, none⟩ = some v := by
  have h1 := (Array.getElem?_eq_some_iff.1 h).1
  refine ⟨Nat.lt_of_lt_of_le h1 (bw_le W d), ?_⟩
  rw [bw_cell _ _ _ _ h1]
  simp [World.cell?, h]
theorem sg_tm {s : SgV} (h : sgB s = true) : SgT s := by
  have := timB_iff.1 (by unfold sgB at h; simp only [Bool.and_eq_true] at h; exact h.2.2.1)
  exact ⟨this.2.1, this.1, this.2.2⟩
theorem all_of_any {l : List SgV} (h : (l.any fun s => !sgB s) = false) : ∀ s ∈ l, sgB s = true := by
  intro s hs
  have := List.any_eq_false.1 h s hs
  simpa using this
set_option maxHeartbeats 4000000 in
set_option maxRecDepth 100000 in
theorem av_given (v : Value) (l : List SgV) (n d f : Int) (w : World) (hl : SlG sgR w v l) :
    Calls Tryz.prog 70 #[v, (.agg #[.int .i64 (n), .int .i64 (d)]), .int .i64 f] w fun e w' => e = .returned (.int .i64 (gvnE l n d f)) ∧ ∃ d, w' = bw w d := by
  have e1 : ∀ args w, (callFunc 115 args).run Tryz.prog w = .ok (.enter 115 args) w := enters_of Tryz.func115 (by kernel_rfl) rfl
  have e2 : ∀ args w, (callFunc 116 args).run Tryz.prog w = .ok (.enter 116 args) w := enters_of Tryz.func116 (by kernel_rfl) rfl
  have e3 : ∀ args w, (callFunc 118 args).run Tryz.prog w = .ok (.enter 118 args) w := enters_of Tryz.func118 (by kernel_rfl) rfl
  have HC1 : Hid (∀ W (_ : SlG sgR W v l), Calls Tryz.prog 68 #[v, .func (.func 115) #[] #[]] W fun e w' => e = .returned (.bool (l.any fun s => !sgB s)) ∧ ∃ d, w' = bw W d) := Lib.hid (fun W (q : SlG sgR W v l) => sg_ContainsFunc 115 [] (fun s => !sgB s) v l W q e1 (fun x hx d => (giv1 x (bw W d) (q.wf x hx)).mono fun e w' ⟨k1, y, k2⟩ => ⟨k1, _, k2.trans (bw_bw _ _ _)⟩))
  have HV := Lib.hid (fun W => rt_Valid n d W)
  have HL := Lib.hid hl
  cases ha : l.any fun s => !sgB s
  · rw [ha] at HC1
    have hall := all_of_any ha
    cases hf : fracB n d
    · rw [hf] at HV
      rw [show gvnE l n d f = 1 from if_pos (.inr hf)]
      obtain ⟨a, cap, rfl⟩ := hl.form
      clear hl hall ha hf
      refine lay_start ?_
      go_enter Tryz.func70, Tryz.ntmps70
      go_wp2_with (first | (go_at_call 68; first | (with_reducible refine (HC1.out _ (HL.out.lay _)).mono ?_; rintro e w' ⟨rfl, dC, rfl⟩; rw [lay_bw])) | (go_at_call 67; refine (HV.out _).mono ?_; rintro e w' ⟨rfl, dV, rfl⟩; rw [lay_bw]) | (go_at_call 61; refine (HS.out _).mono ?_; rintro e w' ⟨rfl, dS, rfl⟩; rw [lay_bw]))
      go_ret
      exact ⟨rfl, lay_ex _ _⟩
    · rw [hf] at HV
      have hE : gvnE l n d f = if l.length < 1 ∨ 40 < l.length then 3 else if slpB n d = false ∨ f < 1 ∨ 100 < f then 2 else if (l.any fun s => !likB s (fstS l)) = true then 11 else if (l.any fun s => farS l s) = true then 20 else 0 := by
        unfold gvnE
        rw [if_neg (by rw [ha, hf]; decide)]
      have HS := Lib.hid (fun W => av_slopes n d W (fracB_ok hf))
      by_cases c1 : l.length < 1
      · rw [hE, if_pos (.inl c1)]
        obtain ⟨a, cap, rfl⟩ := hl.form
        have c1' : (l.length : Int) < 1 := by omega
        clear hl hall ha hf hE
        refine lay_start ?_
        go_enter Tryz.func70, Tryz.ntmps70
        go_wp2_with (first | (go_at_call 68; first | (with_reducible refine (HC1.out _ (HL.out.lay _)).mono ?_; rintro e w' ⟨rfl, dC, rfl⟩; rw [lay_bw])) | (go_at_call 67; refine (HV.out _).mono ?_; rintro e w' ⟨rfl, dV, rfl⟩; rw [lay_bw]) | (go_at_call 61; refine (HS.out _).mono ?_; rintro e w' ⟨rfl, dS, rfl⟩; rw [lay_bw]))
        go_ret
        exact ⟨rfl, lay_ex _ _⟩
      · have c1' : ¬ (l.length : Int) < 1 := by omega
        have q1 : decide ((l.length : Int) < 1) = false := decide_eq_false c1'
        by_cases c2 : 40 < l.length
        · rw [hE, if_pos (.inr c2)]
          obtain ⟨a, cap, rfl⟩ := hl.form
          have c2' : (40 : Int) < (l.length : Int) := by omega
          have q2 : decide ((40 : Int) < (l.length : Int)) = true := decide_eq_true c2'
          clear hl hall ha hf hE
          refine lay_start ?_
          go_enter Tryz.func70, Tryz.ntmps70
          go_wp2_with (first | (go_at_call 68; first | (with_reducible refine (HC1.out _ (HL.out.lay _)).mono ?_; rintro e w' ⟨rfl, dC, rfl⟩; rw [lay_bw])) | (go_at_call 67; refine (HV.out _).mono ?_; rintro e w' ⟨rfl, dV, rfl⟩; rw [lay_bw]) | (go_at_call 61; refine (HS.out _).mono ?_; rintro e w' ⟨rfl, dS, rfl⟩; rw [lay_bw]))
          go_ret
          exact ⟨rfl, lay_ex _ _⟩
        · rw [if_neg (by omega)] at hE
          have c2' : ¬ (40 : Int) < (l.length : Int) := by omega
          have q2 : decide ((40 : Int) < (l.length : Int)) = false := decide_eq_false c2'
          have h0 : l[0]? = some (fstS l) := by
            unfold fstS
            rw [List.getElem?_eq_getElem (by omega)]; rfl
          cases hs : slpB n d
          · rw [hE, if_pos (.inl hs)]
            rw [hs] at HS
            obtain ⟨a, cap, rfl⟩ := hl.form
            clear hl hall ha hf hE h0 hs
            refine lay_start ?_
            go_enter Tryz.func70, Tryz.ntmps70
            go_wp2_with (first | (go_at_call 68; first | (with_reducible refine (HC1.out _ (HL.out.lay _)).mono ?_; rintro e w' ⟨rfl, dC, rfl⟩; rw [lay_bw])) | (go_at_call 67; refine (HV.out _).mono ?_; rintro e w' ⟨rfl, dV, rfl⟩; rw [lay_bw]) | (go_at_call 61; refine (HS.out _).mono ?_; rintro e w' ⟨rfl, dS, rfl⟩; rw [lay_bw]))
            go_ret
            exact ⟨rfl, lay_ex _ _⟩
          · rw [hs] at HS
            by_cases c3 : f < 1
            · rw [hE, if_pos (.inr (.inl c3))]
              obtain ⟨a, cap, rfl⟩ := hl.form
              have q3 := decide_eq_true c3
              clear hl hall ha hf hE h0 hs
              refine lay_start ?_
              go_enter Tryz.func70, Tryz.ntmps70
              go_wp2_with (first | (go_at_call 68; first | (with_reducible refine (HC1.out _ (HL.out.lay _)).mono ?_; rintro e w' ⟨rfl, dC, rfl⟩; rw [lay_bw])) | (go_at_call 67; refine (HV.out _).mono ?_; rintro e w' ⟨rfl, dV, rfl⟩; rw [lay_bw]) | (go_at_call 61; refine (HS.out _).mono ?_; rintro e w' ⟨rfl, dS, rfl⟩; rw [lay_bw]))
              go_ret
              exact ⟨rfl, lay_ex _ _⟩
            · have q3 := decide_eq_false c3
              by_cases c4 : 100 < f
              · rw [hE, if_pos (.inr (.inr c4))]
                obtain ⟨a, cap, rfl⟩ := hl.form
                have q4 := decide_eq_true c4
                clear hl hall ha hf hE h0 hs
                refine lay_start ?_
                go_enter Tryz.func70, Tryz.ntmps70
                go_wp2_with (first | (go_at_call 68; first | (with_reducible refine (HC1.out _ (HL.out.lay _)).mono ?_; rintro e w' ⟨rfl, dC, rfl⟩; rw [lay_bw])) | (go_at_call 67; refine (HV.out _).mono ?_; rintro e w' ⟨rfl, dV, rfl⟩; rw [lay_bw]) | (go_at_call 61; refine (HS.out _).mono ?_; rintro e w' ⟨rfl, dS, rfl⟩; rw [lay_bw]))
                go_ret
                exact ⟨rfl, lay_ex _ _⟩
              · have q4 := decide_eq_false c4
                rw [if_neg (by rw [hs]; simp; omega)] at hE
                have HC2 : Hid (∀ W (_ : W.heap[posn w []]? = some (.cells #[v] 64 (0, 0))) (_ : SlG sgR W v l), Calls Tryz.prog 68 #[v, .func (.func 116) #[] #[.pointer (some ⟨posn w [], 0, none⟩)]] W fun e w' => e = .returned (.bool (l.any fun s => !likB s (fstS l))) ∧ ∃ d, w' = bw W d) := Lib.hid (fun W (hb : W.heap[posn w []]? = some (.cells #[v] 64 (0, 0))) (q : SlG sgR W v l) => sg_ContainsFunc 116 [.pointer (some ⟨posn w [], 0, none⟩)] (fun s => !likB s (fstS l)) v l W q e2 (fun x hx d => (giv2 x (fstS l) l v (posn w []) (bw W d) (box_cell2 hb d).1 (box_cell2 hb d).2 (q.bw d) h0).mono fun e w' ⟨k1, y, k2⟩ => ⟨k1, _, k2.trans (bw_bw _ _ _)⟩))
                cases hk : l.any fun s => !likB s (fstS l)
                · rw [hk] at HC2
                  rw [if_neg (by rw [hk]; decide)] at hE
                  have hf0 : SgT (fstS l) := sg_tm (hall _ (List.mem_of_getElem? h0))
                  have HC3 : Hid (∀ W (_ : W.heap[posn w []]? = some (.cells #[v] 64 (0, 0))) (_ : SlG sgR W v l), Calls Tryz.prog 68 #[v, .func (.func 118) #[] #[.pointer (some ⟨posn w [], 0, none⟩)]] W fun e w' => e = .returned (.bool (l.any fun s => farS l s)) ∧ ∃ d, w' = bw W d) := Lib.hid (fun W (hb : W.heap[posn w []]? = some (.cells #[v] 64 (0, 0))) (q : SlG sgR W v l) => sg_ContainsFunc 118 [.pointer (some ⟨posn w [], 0, none⟩)] (fun s => farS l s) v l W q e3 (fun x hx d => (giv3 x (fstS l) l v (posn w []) (bw W d) (box_cell2 hb d).1 (box_cell2 hb d).2 (q.bw d) h0 (sg_tm (hall x hx)) hf0).mono fun e w' ⟨k1, y, k2⟩ => ⟨k1, _, k2.trans (bw_bw _ _ _)⟩))
                  cases hw : l.any fun s => farS l s
                  · rw [hw] at HC3
                    rw [hE, if_neg (by rw [hw]; decide)]
                    obtain ⟨a, cap, rfl⟩ := hl.form
                    clear hl hall ha hf hE h0 hs hk hw hf0
                    refine lay_start ?_
                    go_enter Tryz.func70, Tryz.ntmps70
                    go_wp2_with (first | (go_at_call 68; first | (with_reducible refine (HC1.out _ (HL.out.lay _)).mono ?_; rintro e w' ⟨rfl, dC, rfl⟩; rw [lay_bw]) | ((with_reducible refine Calls.mono (HC2.out _ ?_ (HL.out.lay _)) ?_); exact lay_get w [.inr dS, .inr dV, .inr dC, .inl _, .inl _] 4 _ rfl; rintro e w' ⟨rfl, dD, rfl⟩; rw [lay_bw]) | ((with_reducible refine Calls.mono (HC3.out _ ?_ (HL.out.lay _)) ?_); exact lay_get w [.inr dD, .inr dS, .inr dV, .inr dC, .inl _, .inl _] 5 _ rfl; rintro e w' ⟨rfl, dE, rfl⟩; rw [lay_bw])) | (go_at_call 67; refine (HV.out _).mono ?_; rintro e w' ⟨rfl, dV, rfl⟩; rw [lay_bw]) | (go_at_call 61; refine (HS.out _).mono ?_; rintro e w' ⟨rfl, dS, rfl⟩; rw [lay_bw]))
                    go_ret
                    exact ⟨rfl, lay_ex _ _⟩
                  · rw [hw] at HC3
                    rw [hE, if_pos hw]
                    obtain ⟨a, cap, rfl⟩ := hl.form
                    clear hl hall ha hf hE h0 hs hk hw hf0
                    refine lay_start ?_
                    go_enter Tryz.func70, Tryz.ntmps70
                    go_wp2_with (first | (go_at_call 68; first | (with_reducible refine (HC1.out _ (HL.out.lay _)).mono ?_; rintro e w' ⟨rfl, dC, rfl⟩; rw [lay_bw]) | ((with_reducible refine Calls.mono (HC2.out _ ?_ (HL.out.lay _)) ?_); exact lay_get w [.inr dS, .inr dV, .inr dC, .inl _, .inl _] 4 _ rfl; rintro e w' ⟨rfl, dD, rfl⟩; rw [lay_bw]) | ((with_reducible refine Calls.mono (HC3.out _ ?_ (HL.out.lay _)) ?_); exact lay_get w [.inr dD, .inr dS, .inr dV, .inr dC, .inl _, .inl _] 5 _ rfl; rintro e w' ⟨rfl, dE, rfl⟩; rw [lay_bw])) | (go_at_call 67; refine (HV.out _).mono ?_; rintro e w' ⟨rfl, dV, rfl⟩; rw [lay_bw]) | (go_at_call 61; refine (HS.out _).mono ?_; rintro e w' ⟨rfl, dS, rfl⟩; rw [lay_bw]))
                    go_ret
                    exact ⟨rfl, lay_ex _ _⟩
                · rw [hk] at HC2
                  rw [hE, if_pos hk]
                  obtain ⟨a, cap, rfl⟩ := hl.form
                  clear hl hall ha hf hE h0 hs hk
                  refine lay_start ?_
                  go_enter Tryz.func70, Tryz.ntmps70
                  go_wp2_with (first | (go_at_call 68; first | (with_reducible refine (HC1.out _ (HL.out.lay _)).mono ?_; rintro e w' ⟨rfl, dC, rfl⟩; rw [lay_bw]) | ((with_reducible refine Calls.mono (HC2.out _ ?_ (HL.out.lay _)) ?_); exact lay_get w [.inr dS, .inr dV, .inr dC, .inl _, .inl _] 4 _ rfl; rintro e w' ⟨rfl, dD, rfl⟩; rw [lay_bw])) | (go_at_call 67; refine (HV.out _).mono ?_; rintro e w' ⟨rfl, dV, rfl⟩; rw [lay_bw]) | (go_at_call 61; refine (HS.out _).mono ?_; rintro e w' ⟨rfl, dS, rfl⟩; rw [lay_bw]))
                  go_ret
                  exact ⟨rfl, lay_ex _ _⟩
  · rw [ha] at HC1
    rw [show gvnE l n d f = 1 from if_pos (.inl ha)]
    obtain ⟨a, cap, rfl⟩ := hl.form
    clear hl ha
    refine lay_start ?_
    go_enter Tryz.func70, Tryz.ntmps70
    go_wp2_with (first | (go_at_call 68; first | (with_reducible refine (HC1.out _ (HL.out.lay _)).mono ?_; rintro e w' ⟨rfl, dC, rfl⟩; rw [lay_bw])) | (go_at_call 67; refine (HV.out _).mono ?_; rintro e w' ⟨rfl, dV, rfl⟩; rw [lay_bw]) | (go_at_call 61; refine (HS.out _).mono ?_; rintro e w' ⟨rfl, dS, rfl⟩; rw [lay_bw]))
    go_ret
    exact ⟨rfl, lay_ex _ _⟩
end Go.Proofs.YtejmgdpgngjiiaaGreat

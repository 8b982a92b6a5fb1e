/- Contracts and plain laws, several texts in one: HzO -/
import Derived.Test.YthjfadfebhjhbaaGreatProg
import Derived.WalkKit
import Derived.WalkSpells
import Derived.WalkLawsBesides
import Derived.Lib.Hide
import Derived.BigQuiet
import Derived.Test.YthjfadfebhjhbaaGreatPAA
import Derived.Test.YthjfadfebhjhbaaGreatPAB
import Derived.Test.YthjfadfebhjhbaaGreatPBN
/- HorizonOrder: the plain law. -/
namespace Go.Proofs.YthjfadfebhjhbaaGreat
open Go.RowKit Go.Shelf

theorem ph_nil {l h n : Int} : phF l h [] n = (n, 0) := rfl
theorem ph_bd {l h : Int} (_ : l ≤ h) : ((phF l h lims 0).2 ≠ 0 → (phF l h lims 0).1 = 0) ∧ ((phF l h lims 0).2 = 0 → 0 ≤ (phF l h lims 0).1 ∧ (phF l h lims 0).1 ≤ 4 ∧ ((phF l h lims 0).1 = 0 ∨ h < -50000)) := by
  unfold lims
  by_cases a1 : l ≤ -50000 ∧ -50000 ≤ h
  · rw [ph_in a1]; exact ⟨fun _ => rfl, fun e => absurd e (by decide)⟩
  · by_cases b1 : h < -50000
    · rw [ph_out a1 b1]
      by_cases a2 : l ≤ -360000 ∧ -360000 ≤ h
      · rw [ph_in a2]; exact ⟨fun _ => rfl, fun e => absurd e (by decide)⟩
      · by_cases b2 : h < -360000
        · rw [ph_out a2 b2]
          by_cases a3 : l ≤ -720000 ∧ -720000 ≤ h
          · rw [ph_in a3]; exact ⟨fun _ => rfl, fun e => absurd e (by decide)⟩
          · by_cases b3 : h < -720000
            · rw [ph_out a3 b3]
              by_cases a4 : l ≤ -1080000 ∧ -1080000 ≤ h
              · rw [ph_in a4]; exact ⟨fun _ => rfl, fun e => absurd e (by decide)⟩
              · by_cases b4 : h < -1080000
                · rw [ph_out a4 b4, ph_nil]; exact ⟨fun e => absurd rfl e, fun _ => ⟨by decide, by decide, .inr b1⟩⟩
                · rw [ph_keep a4 b4, ph_nil]; exact ⟨fun e => absurd rfl e, fun _ => ⟨by decide, by decide, .inr b1⟩⟩
            · rw [ph_keep a3 b3]
              by_cases a4 : l ≤ -1080000 ∧ -1080000 ≤ h
              · rw [ph_in a4]; exact ⟨fun _ => rfl, fun e => absurd e (by decide)⟩
              · rw [ph_keep a4 (by omega), ph_nil]; exact ⟨fun e => absurd rfl e, fun _ => ⟨by decide, by decide, .inr b1⟩⟩
        · rw [ph_keep a2 b2]
          by_cases a3 : l ≤ -720000 ∧ -720000 ≤ h
          · rw [ph_in a3]; exact ⟨fun _ => rfl, fun e => absurd e (by decide)⟩
          · rw [ph_keep a3 (by omega)]
            by_cases a4 : l ≤ -1080000 ∧ -1080000 ≤ h
            · rw [ph_in a4]; exact ⟨fun _ => rfl, fun e => absurd e (by decide)⟩
            · rw [ph_keep a4 (by omega), ph_nil]; exact ⟨fun e => absurd rfl e, fun _ => ⟨by decide, by decide, .inr b1⟩⟩
    · rw [ph_keep a1 b1]
      by_cases a2 : l ≤ -360000 ∧ -360000 ≤ h
      · rw [ph_in a2]; exact ⟨fun _ => rfl, fun e => absurd e (by decide)⟩
      · rw [ph_keep a2 (by omega)]
        by_cases a3 : l ≤ -720000 ∧ -720000 ≤ h
        · rw [ph_in a3]; exact ⟨fun _ => rfl, fun e => absurd e (by decide)⟩
        · rw [ph_keep a3 (by omega)]
          by_cases a4 : l ≤ -1080000 ∧ -1080000 ≤ h
          · rw [ph_in a4]; exact ⟨fun _ => rfl, fun e => absurd e (by decide)⟩
          · rw [ph_keep a4 (by omega), ph_nil]; exact ⟨fun e => absurd rfl e, fun _ => ⟨by decide, by decide, .inl rfl⟩⟩
variable {lp : List PgV} {ls : List StarV} {s : ByteArray}
theorem abE_0 {a b u v x y : Int} (h : abE lp ls s a b u v x y = 0) : timB a b = true ∧ plcR u v x y = true ∧ lhaE lp ls s a b x y = 0 := by
  unfold abE at h
  by_cases c : timB a b = true ∧ plcR u v x y = true
  · rw [if_pos c] at h; exact ⟨c.1, c.2, h⟩
  · rw [if_neg c] at h; cases h
theorem ord_main {a b u v x y n : Int} (k : NewOk lp ls) (h : abE lp ls s a b u v x y = 0) (h1 : a ≤ n) (h2 : n ≤ b) : abE lp ls s n n u v x y = 0 ∧ (abN lp ls s a b u v x y ≠ 0 → abN lp ls s n n u v x y = abN lp ls s a b u v x y) := by
  obtain ⟨t, p, l⟩ := abE_0 h
  have hu : latB u v = true := by unfold plcR at p; rw [Bool.and_eq_true] at p; exact p.1
  obtain ⟨l', q1, q2⟩ := hz_part k hu l h1 h2
  have tn : timB n n = true := by have := timB_iff.1 t; exact timB_iff.2 (by omega)
  have o := (hz_ok (u := u) (v := v) k hu l').le
  have e : abE lp ls s n n u v x y = 0 := by unfold abE; rw [if_pos ⟨tn, p⟩]; exact l'
  refine ⟨e, ?_⟩
  unfold abN
  rw [if_pos e, if_pos h]
  unfold sdI
  intro hn
  by_cases c1 : 0 < hzL lp ls s a b u v x y
  · rw [if_pos c1, if_pos (by omega)]
  · rw [if_neg c1] at hn ⊢
    by_cases c2 : hzH lp ls s a b u v x y < 0
    · rw [if_pos c2, if_neg (by omega), if_pos (by omega)]
    · rw [if_neg c2] at hn; exact absurd rfl hn
theorem sun_ok {u x t : Int} (k : NewOk lp ls) (hp : ptB u x = true) (ht : insB t = true) :
    ((phR lp ls u x t).2 ≠ 0 ∨ abE lp ls sunS t t u u x x ≠ 0 → (phR lp ls u x t).1 = 0) ∧
    ((phR lp ls u x t).2 = 0 → abE lp ls sunS t t u u x x = 0 → 0 ≤ (phR lp ls u x t).1 ∧ (phR lp ls u x t).1 ≤ 4 ∧ (abN lp ls sunS t t u u x x ≠ 1 ∨ (phR lp ls u x t).1 = 0) ∧ ((phR lp ls u x t).1 = 0 ∨ abN lp ls sunS t t u u x x = -1)) := by
  obtain ⟨p1, p2, p3⟩ := pt_plc hp
  have tt : timB t t = true := by
    unfold timB
    rw [ht]
    simp
  have e1 : phR lp ls u x t = if lhaE lp ls sunS t t x x = 0 then phF (hzL lp ls sunS t t u u x x) (hzH lp ls sunS t t u u x x) lims 0 else (0, lhaE lp ls sunS t t x x) := by unfold phR; rw [if_neg (by rw [hp]; decide), if_neg (by rw [ht]; decide)]
  have e2 : abE lp ls sunS t t u u x x = lhaE lp ls sunS t t x x := by unfold abE; rw [if_pos ⟨tt, p1⟩]
  by_cases h0 : lhaE lp ls sunS t t x x = 0
  · have o := (hz_ok (s := sunS) (u := u) (v := u) k p2 h0).le
    obtain ⟨g1, g2⟩ := ph_bd o
    rw [if_pos h0] at e1
    have e3 : abN lp ls sunS t t u u x x = sdI (hzL lp ls sunS t t u u x x) (hzH lp ls sunS t t u u x x) 0 := by unfold abN; rw [if_pos (e2.trans h0)]
    rw [e1, e2, e3]
    refine ⟨fun h => h.elim g1 (fun h => absurd h0 h), fun h _ => ?_⟩
    obtain ⟨q1, q2, q3⟩ := g2 h
    refine ⟨q1, q2, ?_⟩
    unfold sdI
    rcases q3 with q3 | q3
    · exact ⟨.inr q3, .inl q3⟩
    · rw [if_neg (by omega), if_pos (by omega)]
      exact ⟨.inl (by decide), .inr rfl⟩
  · rw [if_neg h0] at e1
    rw [e1, e2]
    exact ⟨fun _ => rfl, fun h => absurd h h0⟩
end Go.Proofs.YthjfadfebhjhbaaGreat

/- slices.Clone at rows of records: a row of the call's own that holds the same records. -/
import Derived.Test.YtlkphcjlgbimkaaGreatProg
import Derived.Test.YtlkphcjlgbimkaaGreatLay
import Derived.Test.YtlkphcjlgbimkaaGreatRegion
import Derived.Test.YtlkphcjlgbimkaaGreatMix
import Derived.WalkKit
import Derived.WalkSpells
import Derived.WalkLawsBesides
import Derived.Lib.Hide
import Derived.BigQuiet
import Derived.Test.YtlkphcjlgbimkaaGreatRow
import Derived.Test.YtlkphcjlgbimkaaGreatRowB
import Derived.Test.YtlkphcjlgbimkaaGreatPgs
namespace Go.Proofs.YtlkphcjlgbimkaaGreat
open Go.RowKit

def ClnPost {α : Type} (R : RecT α) (w : World) (l : List α) (e : Ending) (w' : World) : Prop := ∃ v' d, e = .returned v' ∧ w' = bw w d ∧ OwG R (bw w d) w.heap.size v' l
set_option maxHeartbeats 1000000 in
set_option maxRecDepth 100000 in
theorem cln_Star (v : Value) (l : List StarV) (w : World) (hv : SlG stR w v l) (hn : l.length ≤ 1000000000) :
    Calls Tryz.prog 45 #[v] w (ClnPost stR w l) := by
  unfold ClnPost
  by_cases hz : l = []
  · subst hz
    obtain ⟨a, c, rfl⟩ := hv.form
    cases a with
    | none =>
      refine lay_start ?_
      have qT : ∀ (w : World) (a : Option Addr) (n c : Nat), (binOp .eql 23 (.slice a n c) (.slice none 0 0)).run Tryz.prog w = .ok (.bool a.isNone) w := fun w a n c => Lib.run_eql_slice_nil w _ _ a n c 0 0 stOk.und
      go_enter Tryz.func45, Tryz.ntmps45
      go_wp2_with fail
      go_ret
      exact ⟨_, noExt _, rfl, (bw_noExt _).symm, OwG.nil _ _ _⟩
    | some a =>
      refine lay_start ?_
      have HV := Lib.hid (fun L => hv.lay L)
      have qT : ∀ (w : World) (a : Option Addr) (n c : Nat), (binOp .eql 23 (.slice a n c) (.slice none 0 0)).run Tryz.prog w = .ok (.bool a.isNone) w := fun w a n c => Lib.run_eql_slice_nil w _ _ a n c 0 0 stOk.und
      go_enter Tryz.func45, Tryz.ntmps45
      go_wp2_with (at_builtin; refine push_slG stOk rfl _ _ rfl (lay w []) _ _ _ (some a) 0 c [] (lay_belowG (A := [_]) (B := [])) (owG_empty' _ (A := []) (B := []) (L := [])) (HV.out _) (fun h => by cases h) rfl rfl (by simp) ?_; intro v' d' hv')
      obtain ⟨va, vc, hve⟩ := hv'.form
      have H' := Lib.hid hv'
      subst hve
      clear hv'
      go_wp2_with fail
      go_ret
      exact ⟨_, d', rfl, rfl, H'.out⟩
  · obtain ⟨b, o, cap, rfl, hc, hb, hr⟩ := hv.open (List.length_pos_iff.2 hz)
    have HV := Lib.hid (fun L => hv.lay L)
    have HN := Lib.hid hn
    clear hr hv hz
    refine lay_start ?_
    have qT : ∀ (w : World) (a : Option Addr) (n c : Nat), (binOp .eql 23 (.slice a n c) (.slice none 0 0)).run Tryz.prog w = .ok (.bool a.isNone) w := fun w a n c => Lib.run_eql_slice_nil w _ _ a n c 0 0 stOk.und
    go_enter Tryz.func45, Tryz.ntmps45
    go_wp2_with (at_builtin; refine push_slG stOk rfl _ _ rfl (lay w []) _ _ [] (some ⟨b, o, none⟩) l.length cap l (lay_belowG (A := [_]) (B := [])) (owG_empty' _ (A := []) (B := []) (L := [])) (HV.out _) (fun h => by cases h) rfl rfl (by simpa using HN.out) ?_; intro v' d' hv')
    obtain ⟨va, vc, hve⟩ := hv'.form
    have H' := Lib.hid hv'
    subst hve
    clear hv'
    go_wp2_with fail
    go_ret
    exact ⟨_, d', rfl, rfl, H'.out⟩
end Go.Proofs.YtlkphcjlgbimkaaGreat

/- compass.Swing's closures; its list of entries, sorted. -/
import Derived.Test.YtlkphcjlgbimkaaProg
import Derived.Test.YtlkphcjlgbimkaaLay
import Derived.Test.YtlkphcjlgbimkaaRegion
import Derived.Test.YtlkphcjlgbimkaaMix
import Derived.WalkKit
import Derived.WalkSpells
import Derived.WalkLawsBesides
import Derived.Lib.Hide
import Derived.BigQuiet
import Derived.Test.YtlkphcjlgbimkaaPlain
import Derived.Test.YtlkphcjlgbimkaaAngle
import Derived.Test.YtlkphcjlgbimkaaComp6
import Derived.Test.YtlkphcjlgbimkaaIdx
import Derived.Test.YtlkphcjlgbimkaaSwi
import Derived.Test.YtlkphcjlgbimkaaSrt
namespace Go.Proofs.Ytlkphcjlgbimkaa
open Go.RowKit

/-- An entry's two cells. -/
def chR : RecT (Int × Int) := { E := 32, S := 24, k := 2, bytes := 16, enc := fun x => [.int .i64 x.1, .int .i64 x.2], wf := fun x => (Lit.int .i64 x.1).wf = true ∧ (Lit.int .i64 x.2).wf = true }
theorem info_ch : (Try.prog.info? 32).map (fun i => (i.zero.map (fun z => z.cells.size), i.size, i.bytes)) = some (some 2, 2, 16) := by kernel_rfl
theorem chOk : RecOk chR where
  len _ := rfl
  one x u hu := by
    rcases List.mem_cons.1 hu with rfl | hu
    · rfl
    · rw [List.mem_singleton.1 hu]; rfl
  pos := by decide
  und := Try.underlying24
  info := by
    have h := info_ch
    cases hi : Try.prog.info? 32 with
    | none => rw [hi] at h; cases h
    | some i =>
      rw [hi] at h
      simp only [Option.map_some, Option.some.injEq, Prod.mk.injEq] at h
      obtain ⟨h1, h2, h3⟩ := h
      cases hz : i.zero with
      | none => rw [hz] at h1; cases h1
      | some z =>
        rw [hz] at h1
        simp only [Option.map_some, Option.some.injEq] at h1
        exact ⟨i, z, hi, hz, h2, h3, h1⟩
  small := by decide
theorem tabs_slG {w : World} {v : Value} {l : Tl} (h : SlG chR w v l) : Tabs w v l := by
  obtain ⟨a, cap, h1, h2, h0, h3⟩ := h
  refine ⟨a, cap, h1, by omega, fun hl => ?_⟩
  obtain ⟨b, o, h4, h5, h6⟩ := h3 hl
  refine ⟨b, o, h4, h5, fun i hi => ?_⟩
  have hx := pair_eq hi
  have c0 := h6 i _ hx 0 _ rfl
  have c1 := h6 i _ hx 1 _ rfl
  have hw := h0 _ (List.mem_of_getElem? hx)
  exact ⟨c0, c1, hw.1, hw.2⟩
theorem signed_sgn (n : Int) : signedI n = sgnH n := by unfold signedI sgnH; split <;> split <;> omega
set_option maxHeartbeats 400000 in
theorem comp_Swing1 (n : Int) (w : World) :
    Calls Try.prog 17 #[.int .i64 n] w fun e w' => e = .returned (.bool (!headB n)) ∧ w' = w := by
  go_enter Try.func17, Try.ntmps17
  go_wp2_with (go_at_call 18; refine (comp_heading _ _).mono ?_; rintro e w' ⟨rfl, rfl⟩)
  go_ret
  exact ⟨rfl, rfl⟩
set_option maxHeartbeats 400000 in
theorem comp_Swing2 (a b c d : Int) (w : World) :
    Calls Try.prog 23 #[(.agg #[.int .i64 (a), .int .i64 (b)]), (.agg #[.int .i64 (c), .int .i64 (d)])] w fun e w' => e = .returned (.int .i64 (cmpI a c)) ∧ w' = lay w [.inl (.cells #[.int .i64 c, .int .i64 d] 32 (0, 0)), .inl (.cells #[.int .i64 a, .int .i64 b] 32 (0, 0))] := by
  refine lay_start ?_
  go_enter Try.func23, Try.ntmps23
  go_wp2_with (go_at_call 24; refine (cmp_Compare _ _ _).mono ?_; rintro e w' ⟨rfl, rfl⟩)
  go_ret
  exact ⟨rfl, rfl⟩
end Go.Proofs.Ytlkphcjlgbimkaa

/- Contracts and plain laws, several texts in one: ChM -/
import Derived.Test.YtakcfcekdngndaaGreatProg
import Derived.WalkKit
import Derived.WalkSpells
import Derived.WalkLawsBesides
import Derived.Lib.Hide
import Derived.BigQuiet
import Derived.Test.YtakcfcekdngndaaGreatBAA
import Derived.Test.YtakcfcekdngndaaGreatBAB
import Derived.Test.YtakcfcekdngndaaGreatBAJ
/- meridian's chain of operations: each gives its enclosure, and no error is kept. -/
namespace Go.Proofs.YtakcfcekdngndaaGreat
open Go.RowKit

set_option maxRecDepth 100000 in
theorem mc_keep (b : Nat) (lo hi : Int) (w : World) (hc : ChW b w) :
    Calls Tryz.prog 24 #[.pointer (some ⟨b, 0, none⟩), (.agg #[.int .i64 (lo), .int .i64 (hi)]), .int .i64 0] w fun e w' => e = .returned (.agg #[.int .i64 (lo), .int .i64 (hi)]) ∧ ∃ d, w' = bw w d := by
  have hb := hc.lt
  have h1 := hc.cell
  have h2 := hc.froz
  have h3 : ∀ L, (lay w L).setCell ⟨b, 0, none⟩ (.int .i64 0) = lay w L := fun L => (hc.lay L).set
  refine lay_start ?_
  go_enter Tryz.func24, Tryz.ntmps24
  go_wp2_with fail
  exact bodyPost_ret (v := (.agg #[.int .i64 (lo), .int .i64 (hi)])) (by simp [results, Tryz.results24, go_sem]) rfl ⟨rfl, lay_ex _ _⟩
set_option maxRecDepth 100000 in
theorem mc_cos (b : Nat) (lo hi : Int) (w : World) (hc : ChW b w) (hv : validB lo hi = true) :
    Calls Tryz.prog 29 #[.pointer (some ⟨b, 0, none⟩), (.agg #[.int .i64 (lo), .int .i64 (hi)])] w fun e w' => e = .returned (.agg #[.int .i64 (encL (lo + 5400000) (hi + 5400000)), .int .i64 (encH (lo + 5400000) (hi + 5400000))]) ∧ ∃ d, w' = bw w d := by
  have HK := Lib.hid (fun L => mc_keep b (encL (lo + 5400000) (hi + 5400000)) (encH (lo + 5400000) (hi + 5400000)) (lay w L) (hc.lay L))
  have HT := Lib.hid (fun W => tg_Cos lo hi hv W)
  generalize encL (lo + 5400000) (hi + 5400000) = p at *
  generalize encH (lo + 5400000) (hi + 5400000) = q at *
  clear hc hv
  refine lay_start ?_
  go_enter Tryz.func29, Tryz.ntmps29
  go_wp2_with (first | (go_at_call 49; refine (HT.out _).mono ?_; rintro e w' ⟨rfl, d, rfl⟩; rw [lay_bw]) | (go_at_call 24; refine (HK.out _).mono ?_; rintro e w' ⟨rfl, d2, rfl⟩))
  exact bodyPost_ret (v := (.agg #[.int .i64 (p), .int .i64 (q)])) (by simp [results, Tryz.results29, go_sem]) rfl ⟨rfl, lay_ex _ _⟩
set_option maxRecDepth 100000 in
theorem mc_hav (b : Nat) (lo hi : Int) (w : World) (hc : ChW b w) (hv : validB lo hi = true) :
    Calls Tryz.prog 26 #[.pointer (some ⟨b, 0, none⟩), (.agg #[.int .i64 (lo), .int .i64 (hi)])] w fun e w' => e = .returned (.agg #[.int .i64 (havL lo hi), .int .i64 (havH lo hi)]) ∧ ∃ d, w' = bw w d := by
  have HK := Lib.hid (fun L => mc_keep b (havL lo hi) (havH lo hi) (lay w L) (hc.lay L))
  have HT := Lib.hid (fun W => tg_Haversine lo hi hv W)
  generalize havL lo hi = p at *
  generalize havH lo hi = q at *
  clear hc hv
  refine lay_start ?_
  go_enter Tryz.func26, Tryz.ntmps26
  go_wp2_with (first | (go_at_call 66; refine (HT.out _).mono ?_; rintro e w' ⟨rfl, d, rfl⟩; rw [lay_bw]) | (go_at_call 24; refine (HK.out _).mono ?_; rintro e w' ⟨rfl, d2, rfl⟩))
  exact bodyPost_ret (v := (.agg #[.int .i64 (p), .int .i64 (q)])) (by simp [results, Tryz.results26, go_sem]) rfl ⟨rfl, lay_ex _ _⟩
set_option maxRecDepth 100000 in
theorem mc_mul (b : Nat) (a0 a1 b0 b1 : Int) (w : World) (hc : ChW b w) (ha : fxB a0 a1 = true) (hb : fxB b0 b1 = true) (hm : fxB (mulL a0 a1 b0 b1) (mulH a0 a1 b0 b1) = true) :
    Calls Tryz.prog 28 #[.pointer (some ⟨b, 0, none⟩), (.agg #[.int .i64 (a0), .int .i64 (a1)]), (.agg #[.int .i64 (b0), .int .i64 (b1)])] w fun e w' => e = .returned (.agg #[.int .i64 (mulL a0 a1 b0 b1), .int .i64 (mulH a0 a1 b0 b1)]) ∧ ∃ d, w' = bw w d := by
  have HK := Lib.hid (fun L => mc_keep b (mulL a0 a1 b0 b1) (mulH a0 a1 b0 b1) (lay w L) (hc.lay L))
  have HT := Lib.hid (fun W => fx_MulG a0 a1 b0 b1 W ha hb hm)
  generalize mulL a0 a1 b0 b1 = p at *
  generalize mulH a0 a1 b0 b1 = q at *
  clear hc ha hb hm
  refine lay_start ?_
  go_enter Tryz.func28, Tryz.ntmps28
  go_wp2_with (first | (go_at_call 67; refine (HT.out _).mono ?_; rintro e w' ⟨rfl, d, rfl⟩; rw [lay_bw]) | (go_at_call 24; refine (HK.out _).mono ?_; rintro e w' ⟨rfl, d2, rfl⟩))
  exact bodyPost_ret (v := (.agg #[.int .i64 (p), .int .i64 (q)])) (by simp [results, Tryz.results28, go_sem]) rfl ⟨rfl, lay_ex _ _⟩
end Go.Proofs.YtakcfcekdngndaaGreat

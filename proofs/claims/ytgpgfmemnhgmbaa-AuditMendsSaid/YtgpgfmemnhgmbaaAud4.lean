/- audit: with; the closures of repairs and candidates. -/
import Derived.Test.YtgpgfmemnhgmbaaProg
import Derived.Test.YtgpgfmemnhgmbaaLay
import Derived.Test.YtgpgfmemnhgmbaaRegion
import Derived.Test.YtgpgfmemnhgmbaaMix
import Derived.WalkKit
import Derived.WalkSpells
import Derived.WalkLawsBesides
import Derived.Lib.Hide
import Derived.BigQuiet
import Derived.Test.YtgpgfmemnhgmbaaPlain
import Derived.Test.YtgpgfmemnhgmbaaAngle
import Derived.Test.YtgpgfmemnhgmbaaAud3
namespace Go.Proofs.Ytgpgfmemnhgmbaa
open Go.RowKit

/-- A series that a call made: its list is a row of the call's own. -/
def RwS (w : World) (wr : Bool) (l : List Int) (e : Ending) (w' : World) : Prop := ∃ v d, e = .returned (.agg #[v, .bool wr]) ∧ w' = bw w d ∧ Ow (bw w d) w.heap.size v l
set_option maxHeartbeats 1000000 in
theorem aud_with (v : Value) (l : List Int) (wr : Bool) (at_ : Nat) (x : Int) (w : World) (hs : Sl w v l) (ha : at_ < l.length) (hn : l.length ≤ 1000) (hx : (Lit.int .i64 x).wf = true) :
    Calls Try.prog 45 #[.agg #[v, .bool wr], .int .i64 (at_ : Int), .int .i64 x] w (RwS w wr (l.set at_ x)) := by
  have HS := Lib.hid hs
  obtain ⟨b, o, cap, rfl, -⟩ := hs.open (by omega)
  have HC := Lib.hid (fun W (h : Sl W (.slice (some ⟨b, o, none⟩) l.length cap) l) => sl_Clone _ l W h (by omega) (by omega))
  obtain ⟨m, hm⟩ : ∃ m, l.length = m := ⟨_, rfl⟩
  rw [hm] at HC HS ha hn ⊢
  have HM := Lib.hid hm
  have y0 : (0 : Int) ≤ (at_ : Int) := by omega
  have y1 : (at_ : Int) < (m : Int) := by omega
  clear hm hs
  refine lay_start ?_
  go_enter Try.func45, Try.ntmps45
  go_wp2_with fail
  refine (HC.out _ (HS.out.lay _)).mono ?_
  rintro e w' ⟨v', d, rfl, rfl, hv⟩
  obtain ⟨g, c, rfl, h1, h2, h3, h4⟩ := hv.form1 (by rw [HM.out]; omega)
  rw [HM.out] at hv h3 ⊢
  have k0 := hv.cell (i := at_) (by rw [HM.out]; omega)
  have k1 := hv.froz at_
  obtain ⟨d', hd'⟩ := bw_store (d := d) (i := at_) (v := .int .i64 x) h1
  have hv2 := ow_store hv at_ x hx
  rw [hd'] at hv2
  rw [lay_bw] at k0 k1
  rw [lay_bw, lay_bw] at hd'
  have HV := Lib.hid hv2
  clear hv hv2 h1 h2
  go_wp2_with fail
  have hsw := ow_swap (.cells #[.slice (some ⟨g, 0, none⟩) m c, .bool wr] 57 (0, 0)) (lay_lt _ _ _) HV.out
  obtain ⟨z, hz⟩ := lay_ex w [.inr d', .inl (.cells #[.slice (some ⟨g, 0, none⟩) m c, .bool wr] 57 (0, 0)), .inl (.cells #[.slice (some ⟨b, o, none⟩) m cap, .bool wr] 57 (0, 0))]
  rw [hz] at hsw
  exact bodyPost_ret (v := .agg #[.slice (some ⟨g, 0, none⟩) m c, .bool wr]) (by simp [results, Try.results45, go_sem]) rfl ⟨_, z, rfl, hz, hsw.le (lay_extends w _).size⟩
theorem aud_repairs1 (b : Nat) (at_ x : Int) (w : World) (hb : b < w.heap.size) (c0 : w.cell? ⟨b, 0, none⟩ = some (.int .i64 at_)) (h0 : 0 ≤ at_) (h1 : at_ ≤ 1000) :
    Calls Try.prog 44 #[.int .i64 x, .pointer (some ⟨b, 0, none⟩)] w fun e w' => e = .returned (.bool (decide (x < at_ - 1 ∨ at_ + 1 < x))) ∧ ∃ d, w' = bw w d := by
  have w1 : IntKind.i64.wrap (at_ - 1) = at_ - 1 := IntWalk.i64_in _ (by omega)
  have w2 : IntKind.i64.wrap (at_ + 1) = at_ + 1 := IntWalk.i64_in _ (by omega)
  by_cases hlt : x < at_ - 1
  · have t1 : decide (x < at_ - 1) = true := decide_eq_true hlt
    rw [decide_eq_true (Or.inl hlt)]
    refine lay_start ?_
    go_enter Try.func44, Try.ntmps44
    go_wp2
    go_ret
    exact ⟨rfl, lay_ex _ _⟩
  · have t1 : decide (x < at_ - 1) = false := decide_eq_false hlt
    rw [show decide (x < at_ - 1 ∨ at_ + 1 < x) = decide (at_ + 1 < x) by simp; omega]
    refine lay_start ?_
    go_enter Try.func44, Try.ntmps44
    go_wp2
    go_ret
    exact ⟨rfl, lay_ex _ _⟩
end Go.Proofs.Ytgpgfmemnhgmbaa

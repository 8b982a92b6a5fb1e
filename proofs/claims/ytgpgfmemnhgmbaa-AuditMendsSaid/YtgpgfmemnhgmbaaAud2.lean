/- audit: bad. -/
import Derived.Test.YtgpgfmemnhgmbaaProg
import Derived.Test.YtgpgfmemnhgmbaaLay
import Derived.Test.YtgpgfmemnhgmbaaRegion
import Derived.Test.YtgpgfmemnhgmbaaMix
import Derived.WalkKit
import Derived.WalkSpells
import Derived.WalkLawsBesides
import Derived.Lib.Hide
import Derived.BigQuiet
import Derived.Test.YtgpgfmemnhgmbaaPlain
import Derived.Test.YtgpgfmemnhgmbaaAngle
import Derived.Test.YtgpgfmemnhgmbaaAud1
import Derived.Test.YtgpgfmemnhgmbaaMixP
import Derived.Test.YtgpgfmemnhgmbaaShl
namespace Go.Proofs.Ytgpgfmemnhgmbaa
open Go.RowKit

theorem lit_nat {k : Nat} (h : k ≤ 1000000000) : (Lit.int .i64 (k : Int)).wf = true := by
  simp [Lit.wf, IntKind.min, IntKind.max, IntKind.bits, IntKind.signed]; omega
theorem badL_step (wr : Bool) (l : List Int) (bend : Int) (lo k : Nat) (h : lo ≤ k) : badL wr l bend lo (k + 1) = badL wr l bend lo k ++ if badB bend (sec wr l k) then [(k : Int)] else [] := by
  unfold badL; rw [badN_step wr l bend lo k h, List.map_append]; congr 1; split <;> rfl
theorem badL_self (wr : Bool) (l : List Int) (bend : Int) (lo hi : Nat) (h : hi ≤ lo) : badL wr l bend lo hi = [] := by unfold badL; rw [badN_self _ _ _ _ _ h]; rfl
theorem bad_mx {bend d : Int} (b0 : 0 ≤ bend) : decide (bend + 2 < mx d (-d)) = badB bend d := by
  unfold badB mx; rw [Bool.eq_iff_iff]; simp only [decide_eq_true_eq]; split <;> omega
set_option maxHeartbeats 2000000 in
set_option maxRecDepth 100000 in
theorem aud_bad (v : Value) (l : List Int) (wr : Bool) (bend from_ to_ : Int) (lo hi : Nat) (w : World) (hs : Sl w v l) (hg : Giv wr l) (b0 : 0 ≤ bend) (b1 : bend ≤ 1000)
    (hlo : mx from_ 1 = (lo : Int)) (hhi : mn to_ ((l.length : Int) - 1) = (hi : Int)) :
    Calls Try.prog 30 #[.agg #[v, .bool wr], .int .i64 bend, .int .i64 from_, .int .i64 to_] w (Rw w (badL wr l bend lo hi)) := by
  have hn := hg.n1000
  have h1 : 1 ≤ lo := by unfold mx at hlo; split at hlo <;> omega
  have h2 : hi + 1 ≤ l.length := by unfold mn at hhi; have := hg.n3; split at hhi <;> omega
  have HS := Lib.hid hs
  obtain ⟨b, o, cap, rfl, -⟩ := hs.open (by omega)
  obtain ⟨m, hm⟩ : ∃ m, l.length = m := ⟨_, rfl⟩
  have H2 := Lib.hid (fun W (k : Nat) (h : Sl W (.slice (some ⟨b, o, none⟩) l.length cap) l) (h0 : 1 ≤ k) (h1 : k + 1 < m) => aud_second _ l wr k W h hg h0 (by omega))
  have HB := Lib.hid (fun (k : Nat) (h0 : 1 ≤ k) (h1 : k + 1 < m) => sec_bd hg h0 (show k + 1 < l.length by omega))
  rw [hm] at HS H2 h2 hn hhi ⊢
  have m0 : (0 : Int) ≤ (m : Int) - 1 := by omega
  have w0 : IntKind.i64.wrap ((m : Int) - 1) = (m : Int) - 1 := IntWalk.i64_in _ (by omega)
  have w2 : IntKind.i64.wrap (bend + 2) = bend + 2 := IntWalk.i64_in _ (by omega)
  clear hs hg hm
  refine lay_start ?_
  go_enter Try.func30, Try.ntmps30
  go_wp2_with fail
  go_loopw [9, 10] (fun v9 vi wr' => ∃ (k : Nat) (dd : Ext), lo ≤ k ∧ (k ≤ hi ∨ k = lo) ∧ vi = .int .i64 (k : Int) ∧ wr' = lay w [.inr dd, .inl (.cells #[.slice (some ⟨b, o, none⟩) m cap, .bool wr] 57 (0, 0))] ∧
      Ow (lay w [.inr dd, .inl (.cells #[.slice (some ⟨b, o, none⟩) m cap, .bool wr] 57 (0, 0))]) (lay w [.inl (.cells #[.slice (some ⟨b, o, none⟩) m cap, .bool wr] 57 (0, 0))]).heap.size v9 (badL wr l bend lo k)) (fun _ vi _ => hi - (intOf vi).toNat)
  case atStart =>
    exact ⟨lo, noExt _, Nat.le_refl _, .inr rfl, rfl, (bw_noExt _).symm, by rw [badL_self _ _ _ _ _ (Nat.le_refl _)]; exact Ow.nil _ _⟩
  case round =>
    obtain ⟨k, dd, hk, hk2, rfl, rfl, hown⟩ := hrel
    by_cases hlt : k < hi
    · have sb := HB.out k (by omega) (by omega)
      have hst := badL_step wr l bend lo k hk
      have hneg : IntKind.i64.wrap (-sec wr l k) = -sec wr l k := IntWalk.i64_in _ (by omega)
      have hbm := bad_mx (d := sec wr l k) b0
      have H2' := Lib.hid (fun W h => H2.out W k h (by omega) (by omega))
      have hll := badL_len (wr := wr) (l := l) (bend := bend) (lo := lo) (hi := k)
      have x1 : (k : Int) < (hi : Int) := by omega
      have HO := Lib.hid hown
      clear hown hk2
      generalize badL wr l bend lo k = R at *
      generalize sec wr l k = X at *
      cases hbd : badB bend X
      · rw [hbd] at hbm hst
        have HST : Hid (badL wr l bend lo (k + 1) = R) := Lib.hid (by rw [hst]; simp)
        clear hst hbd
        go_wp2_with (go_at_call 43; refine (H2'.out _ (HS.out.lay _)).mono ?_; rintro e w' ⟨rfl, d, rfl⟩)
        go_roundw
        case rel =>
          obtain ⟨x, hx⟩ := lay_join w [.inl (.cells #[.slice (some ⟨b, o, none⟩) m cap, .bool wr] 57 (0, 0))] dd d
          exact ⟨k + 1, x, by omega, .inl (by omega), by go_num, hx, by rw [HST.out, ← hx]; exact HO.out.bw d⟩
        case measure => simp [intOf]; omega
      · rw [hbd] at hbm hst
        have HST : Hid (badL wr l bend lo (k + 1) = R ++ [(k : Int)]) := Lib.hid (by rw [hst]; simp)
        clear hst hbd
        go_wp2_with (first | (go_at_call 43; refine (H2'.out _ (HS.out.lay _)).mono ?_; rintro e w' ⟨rfl, d, rfl⟩) | (at_builtin; refine push_int rfl _ _ rfl (lay w [.inl (.cells #[.slice (some ⟨b, o, none⟩) m cap, .bool wr] 57 (0, 0))]) _ ((k : Int)) 3 _ _ _ ?_ (ow_on (A := [_, _]) HO.out) ?_ rfl rfl (by omega) (lit_nat (by omega)) ?_; exact lay_below (A := [_, _, _]); exact lay_get w _ 0 _ rfl; intro v' d' hv'))
        go_roundw
        case rel => exact ⟨k + 1, d', by omega, .inl (by omega), by go_num, rfl, by rw [HST.out]; exact hv'⟩
        case measure => simp [intOf]; omega
    · have hkh : badL wr l bend lo k = badL wr l bend lo hi := by
        rcases hk2 with h | h
        · rw [show k = hi by omega]
        · rw [badL_self _ _ _ _ _ (by omega), badL_self _ _ _ _ _ (by omega)]
      rw [hkh] at hown
      have x1 : (hi : Int) ≤ (k : Int) := by omega
      have HO := Lib.hid hown
      clear hown hkh hk2
      go_wp2
      go_ret
      obtain ⟨x, hx⟩ := lay_ex w [.inr dd, .inl (.cells #[.slice (some ⟨b, o, none⟩) m cap, .bool wr] 57 (0, 0))]
      exact ⟨_, x, rfl, hx, by rw [← hx]; exact HO.out.le (lay_extends w _).size⟩
end Go.Proofs.Ytgpgfmemnhgmbaa

/- AuditMends: no repairs, or too many. -/
import Derived.Test.YtgpgfmemnhgmbaaProg
import Derived.Test.YtgpgfmemnhgmbaaLay
import Derived.Test.YtgpgfmemnhgmbaaRegion
import Derived.Test.YtgpgfmemnhgmbaaMix
import Derived.WalkKit
import Derived.WalkSpells
import Derived.WalkLawsBesides
import Derived.Lib.Hide
import Derived.BigQuiet
import Derived.Test.YtgpgfmemnhgmbaaPlain
import Derived.Test.YtgpgfmemnhgmbaaAngle
import Derived.Test.YtgpgfmemnhgmbaaLm
namespace Go.Proofs.Ytgpgfmemnhgmbaa
open Go.RowKit

theorem rprE_at {wr : Bool} {l : List Int} {B : Int} {k : Nat} (hg : Giv wr l) (b0 : 0 ≤ B) (b1 : B ≤ 1000) (hk : k < l.length) :
    rprE wr l B (k : Int) = if repL wr l B k = [] then 12 else if 1000 < (repL wr l B k).length then 4 else 0 := by
  unfold rprE
  rw [if_pos (gvE_0.2 ⟨hg, b0, b1⟩), if_pos (by omega), Int.toNat_natCast]
theorem pos_more {wr : Bool} {l : List Int} {B C : Int} (hg : Giv wr l) (b0 : 0 ≤ B) (bc : B ≤ C) (c1 : C ≤ 1000) (h : posB wr l B = true) : posB wr l C = true :=
  (posB_iff (gvE_0.2 ⟨hg, by omega, c1⟩)).2 (((posB_iff (gvE_0.2 ⟨hg, b0, by omega⟩)).1 h).more bc)
set_option maxHeartbeats 4000000 in
set_option maxRecDepth 100000 in
theorem law15_Mends_err (v : Value) (l : List Int) {w : World} (hs : Sl w v l) (bend : Int) (bb : 0 ≤ bend ∧ bend ≤ 65535) (more : Int) (mb : 0 ≤ more ∧ more ≤ 65535) (n : Nat) (hn255 : n ≤ 255) (wr : Bool)
    (hn : l.length ≤ 40) (hg : Giv wr l) (hE : rprE wr l (bend % 1001) ((n % l.length : Nat) : Int) ≠ 0) :
    Calls Try.prog 7 #[v, .int .u16 bend, .int .u16 more, .int .u8 (n : Int), .bool wr] w fun e w' => e = .returned (.bool true) ∧ ∃ d, w' = bw w d := by
  have hn3 := hg.n3
  have HS := Lib.hid hs
  have HG := Lib.hid (fun W (h : Sl W v l) => re_Given v l wr W h)
  rw [giv_iff.2 hg] at HG
  obtain ⟨b0, b1⟩ := bb
  obtain ⟨m0, m1⟩ := mb
  obtain ⟨B, hB⟩ : ∃ B, bend % 1001 = B := ⟨_, rfl⟩
  have tB : bend.tmod 1001 = B := by rw [Int.tmod_eq_emod_of_nonneg b0]; exact hB
  have B0 : 0 ≤ B := by omega
  have B1 : B ≤ 1000 := by omega
  rw [hB] at hE
  obtain ⟨D, hD⟩ : ∃ D, more % 50 = D := ⟨_, rfl⟩
  have tD : more.tmod 50 = D := by rw [Int.tmod_eq_emod_of_nonneg m0]; exact hD
  have D0 : 0 ≤ D := by omega
  have D1 : D < 50 := by omega
  clear hB hD
  obtain ⟨C, hC⟩ : ∃ C, mn 1000 (B + D) = C := ⟨_, rfl⟩
  have hCb : B ≤ C ∧ C ≤ 1000 := by rw [← hC]; unfold mn; split <;> omega
  obtain ⟨C0, C1⟩ := hCb
  obtain ⟨k, hk⟩ : ∃ k, n % l.length = k := ⟨_, rfl⟩
  have klt : k < l.length := by rw [← hk]; exact Nat.mod_lt _ (by omega)
  have tA : (n : Int).tmod (l.length : Int) = (k : Int) := by
    rw [Int.tmod_eq_emod_of_nonneg (by omega), ← hk]
    exact (Int.natCast_emod n l.length).symm
  rw [hk] at hE
  have HP := Lib.hid (fun W (h : Sl W v l) => aud_Possible v l wr B W h)
  have HQ := Lib.hid (fun W (h : Sl W v l) => aud_Possible v l wr C W h)
  have HR := Lib.hid (fun W (h : Sl W v l) => aud_Repair v l wr B (k : Int) W h)
  have e0 : gvE wr l B = 0 := gvE_0.2 ⟨hg, B0, B1⟩
  have e1 : gvE wr l C = 0 := gvE_0.2 ⟨hg, by omega, C1⟩
  have hR : rprL wr l B (k : Int) = [] := if_neg hE
  rw [e0] at HP
  rw [e1] at HQ
  rw [hR] at HR
  have hm : posB wr l B = true → posB wr l C = true := pos_more hg B0 C0 C1
  have hx : posB wr l B = true → rprE wr l B (k : Int) = 4 := fun h => by
    have hp := (posB_iff e0).1 h
    have h1 := (rep_self hg B0 klt).2 hp
    have h2 := rprE_at hg B0 B1 klt
    rw [if_neg (fun h => by rw [h] at h1; exact absurd h1 (List.not_mem_nil))] at h2
    split at h2
    · exact h2
    · exact absurd h2 hE
  have hy : rprE wr l B (k : Int) = 12 ∨ rprE wr l B (k : Int) = 4 := by
    have h2 := rprE_at hg B0 B1 klt
    split at h2
    · exact .inl h2
    · split at h2
      · exact .inr h2
      · exact absurd h2 hE
  clear e0 e1 hR
  generalize posK wr l B = K1 at *
  generalize posK wr l C = K2 at *
  generalize posB wr l B = F1 at *
  generalize posB wr l C = F2 at *
  generalize rprE wr l B (k : Int) = E at *
  obtain ⟨a1, c1', hv1, -⟩ := hs
  subst hv1
  clear hg hk hE
  generalize l.length = m at *
  have m1 : (m : Int) ≠ 0 := by omega
  have m2 : m ≠ 0 := by omega
  have t1 : decide ((40 : Int) < (m : Int)) = false := decide_eq_false (by omega)
  cases F1
  · clear hx hm
    rcases hy with rfl | rfl
    · refine lay_start ?_
      go_enter Try.func7, Try.ntmps7
      go_wp2_with (first | (go_at_call 10; with_reducible refine (law15_awake _).mono ?_; rintro e w' ⟨rfl, d, rfl⟩) | (go_at_call 13; with_reducible refine (HG.out _ (HS.out.lay _)).mono ?_; rintro e w' ⟨rfl, rfl⟩) | (go_at_call 16; first | (with_reducible refine (HP.out _ (HS.out.lay _)).mono ?_; rintro e w' ⟨rfl, d, rfl⟩) | (with_reducible refine (HQ.out _ (HS.out.lay _)).mono ?_; rintro e w' ⟨rfl, d, rfl⟩)))
      refine (HR.out _ (HS.out.lay _)).mono ?_
      rintro e w' ⟨v2, d2, rfl, rfl, hv⟩
      obtain ⟨o1, o2, rfl⟩ := hv.form
      rw [lay_bw]
      clear hv
      go_wp2
      go_ret
      exact ⟨rfl, lay_ex _ _⟩
    · refine lay_start ?_
      go_enter Try.func7, Try.ntmps7
      go_wp2_with (first | (go_at_call 10; with_reducible refine (law15_awake _).mono ?_; rintro e w' ⟨rfl, d, rfl⟩) | (go_at_call 13; with_reducible refine (HG.out _ (HS.out.lay _)).mono ?_; rintro e w' ⟨rfl, rfl⟩) | (go_at_call 16; first | (with_reducible refine (HP.out _ (HS.out.lay _)).mono ?_; rintro e w' ⟨rfl, d, rfl⟩) | (with_reducible refine (HQ.out _ (HS.out.lay _)).mono ?_; rintro e w' ⟨rfl, d, rfl⟩)))
      refine (HR.out _ (HS.out.lay _)).mono ?_
      rintro e w' ⟨v2, d2, rfl, rfl, hv⟩
      obtain ⟨o1, o2, rfl⟩ := hv.form
      rw [lay_bw]
      clear hv
      go_wp2
      go_ret
      exact ⟨rfl, lay_ex _ _⟩
  · obtain rfl := hx rfl
    obtain rfl := hm rfl
    clear hx hy hm
    refine lay_start ?_
    go_enter Try.func7, Try.ntmps7
    go_wp2_with (first | (go_at_call 10; with_reducible refine (law15_awake _).mono ?_; rintro e w' ⟨rfl, d, rfl⟩) | (go_at_call 13; with_reducible refine (HG.out _ (HS.out.lay _)).mono ?_; rintro e w' ⟨rfl, rfl⟩) | (go_at_call 16; first | (with_reducible refine (HP.out _ (HS.out.lay _)).mono ?_; rintro e w' ⟨rfl, d, rfl⟩) | (with_reducible refine (HQ.out _ (HS.out.lay _)).mono ?_; rintro e w' ⟨rfl, d, rfl⟩)))
    refine (HR.out _ (HS.out.lay _)).mono ?_
    rintro e w' ⟨v2, d2, rfl, rfl, hv⟩
    obtain ⟨o1, o2, rfl⟩ := hv.form
    rw [lay_bw]
    clear hv
    go_wp2
    go_ret
    exact ⟨rfl, lay_ex _ _⟩
end Go.Proofs.Ytgpgfmemnhgmbaa

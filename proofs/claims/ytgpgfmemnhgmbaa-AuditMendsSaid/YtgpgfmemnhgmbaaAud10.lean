/- audit: given, Possible, Repair. -/
import Derived.Test.YtgpgfmemnhgmbaaProg
import Derived.Test.YtgpgfmemnhgmbaaLay
import Derived.Test.YtgpgfmemnhgmbaaRegion
import Derived.Test.YtgpgfmemnhgmbaaMix
import Derived.WalkKit
import Derived.WalkSpells
import Derived.WalkLawsBesides
import Derived.Lib.Hide
import Derived.BigQuiet
import Derived.Test.YtgpgfmemnhgmbaaPlain
import Derived.Test.YtgpgfmemnhgmbaaAngle
import Derived.Test.YtgpgfmemnhgmbaaAud9
namespace Go.Proofs.Ytgpgfmemnhgmbaa
open Go.RowKit

/-- The error of a list, or of a bend. -/
def gvE (wr : Bool) (l : List Int) (bend : Int) : Int := if givE wr l = 0 then (if 0 ≤ bend ∧ bend ≤ 1000 then 0 else 2) else givE wr l
theorem gvE_0 {wr : Bool} {l : List Int} {bend : Int} : gvE wr l bend = 0 ↔ Giv wr l ∧ 0 ≤ bend ∧ bend ≤ 1000 := by
  unfold gvE
  rw [← giv_iff]
  constructor
  · intro h
    split at h
    · rename_i h1
      split at h
      · rename_i h2; exact ⟨h1, h2⟩
      · cases h
    · rename_i h1; exact absurd h h1
  · rintro ⟨h1, h2⟩
    rw [if_pos h1, if_pos h2]
set_option maxHeartbeats 1000000 in
theorem aud_given (v : Value) (l : List Int) (wr : Bool) (bend : Int) (w : World) (hs : Sl w v l) :
    Calls Try.prog 29 #[v, .int .i64 bend, .bool wr] w fun e w' => e = .returned (.tuple #[.agg #[v, .bool wr], .int .i64 (gvE wr l bend)]) ∧ ∃ d, w' = bw w d := by
  have HC := Lib.hid (fun W (h : Sl W v l) => aud_check v l wr W h)
  have HS := Lib.hid hs
  obtain ⟨a, cap, rfl, -⟩ := hs
  unfold gvE
  generalize l.length = m at *
  generalize givE wr l = E at *
  by_cases h0 : E = 0
  · subst h0
    rw [if_pos rfl]
    by_cases h1 : bend < 0
    · rw [if_neg (by omega)]
      have t1 : decide (bend < 0) = true := decide_eq_true h1
      refine lay_start ?_
      go_enter Try.func29, Try.ntmps29
      go_wp2_with (go_at_call 25; refine (HC.out _ (HS.out.lay _)).mono ?_; rintro e w' ⟨rfl, d, rfl⟩)
      exact bodyPost_ret (v := .tuple #[.agg #[.slice a m cap, .bool wr], .int .i64 2]) (by simp [results, Try.results29, go_sem]) rfl ⟨rfl, lay_ex _ _⟩
    · have t1 : decide (bend < 0) = false := decide_eq_false h1
      by_cases h2 : 1000 < bend
      · rw [if_neg (by omega)]
        have t2 : decide (1000 < bend) = true := decide_eq_true h2
        refine lay_start ?_
        go_enter Try.func29, Try.ntmps29
        go_wp2_with (go_at_call 25; refine (HC.out _ (HS.out.lay _)).mono ?_; rintro e w' ⟨rfl, d, rfl⟩)
        exact bodyPost_ret (v := .tuple #[.agg #[.slice a m cap, .bool wr], .int .i64 2]) (by simp [results, Try.results29, go_sem]) rfl ⟨rfl, lay_ex _ _⟩
      · rw [if_pos (by omega)]
        have t2 : decide (1000 < bend) = false := decide_eq_false h2
        refine lay_start ?_
        go_enter Try.func29, Try.ntmps29
        go_wp2_with (go_at_call 25; refine (HC.out _ (HS.out.lay _)).mono ?_; rintro e w' ⟨rfl, d, rfl⟩)
        exact bodyPost_ret (v := .tuple #[.agg #[.slice a m cap, .bool wr], .int .i64 0]) (by simp [results, Try.results29, go_sem]) rfl ⟨rfl, lay_ex _ _⟩
  · rw [if_neg h0]
    have t1 : (E == 0) = false := beq_eq_false_iff_ne.2 h0
    refine lay_start ?_
    go_enter Try.func29, Try.ntmps29
    go_wp2_with (go_at_call 25; refine (HC.out _ (HS.out.lay _)).mono ?_; rintro e w' ⟨rfl, d, rfl⟩)
    exact bodyPost_ret (v := .tuple #[.agg #[.slice a m cap, .bool wr], .int .i64 E]) (by simp [results, Try.results29, go_sem]) rfl ⟨rfl, lay_ex _ _⟩
/-- What Possible says of a list that may be one. -/
def posB (wr : Bool) (l : List Int) (bend : Int) : Bool := decide (gvE wr l bend = 0) && (badL wr l bend 1 (l.length - 1)).isEmpty
def posK (wr : Bool) (l : List Int) (bend : Int) : Int := if gvE wr l bend = 0 then (if badL wr l bend 1 (l.length - 1) = [] then -1 else nth (badL wr l bend 1 (l.length - 1)) 0) else 0
set_option maxHeartbeats 1000000 in
theorem aud_Possible (v : Value) (l : List Int) (wr : Bool) (bend : Int) (w : World) (hs : Sl w v l) :
    Calls Try.prog 16 #[v, .int .i64 bend, .bool wr] w fun e w' => e = .returned (.tuple #[.bool (posB wr l bend), .int .i64 (posK wr l bend), .int .i64 (gvE wr l bend)]) ∧ ∃ d, w' = bw w d := by
  have HGv := Lib.hid (fun W (h : Sl W v l) => aud_given v l wr bend W h)
  have HS := Lib.hid hs
  unfold posB posK
  by_cases h0 : gvE wr l bend = 0
  · obtain ⟨hg, b0, b1⟩ := gvE_0.1 h0
    have HBad := Lib.hid (fun W (h : Sl W v l) => aud_bad v l wr bend 0 (l.length : Int) 1 (l.length - 1) W h hg b0 b1 (by decide) (by unfold mn; have := hg.n3; split <;> omega))
    rw [h0] at HGv ⊢
    obtain ⟨a, cap, rfl, -⟩ := hs
    clear h0 hg
    generalize badL wr l bend 1 (l.length - 1) = B at *
    generalize l.length = m at *
    by_cases hz : B = []
    · subst hz
      rw [if_pos rfl, if_pos rfl]
      refine lay_start ?_
      go_enter Try.func16, Try.ntmps16
      go_wp2_with (go_at_call 29; refine (HGv.out _ (HS.out.lay _)).mono ?_; rintro e w' ⟨rfl, d, rfl⟩)
      refine (HBad.out _ (HS.out.lay _)).mono ?_
      rintro e w' ⟨vb, db, rfl, rfl, hvb⟩
      obtain ⟨ba, bc, rfl⟩ := hvb.form
      rw [lay_bw]
      clear hvb
      go_wp2
      exact bodyPost_ret (v := .tuple #[.bool true, .int .i64 (-1), .int .i64 0]) (by simp [results, Try.results16, go_sem]) rfl ⟨rfl, lay_ex _ _⟩
    · rw [if_pos rfl, if_neg hz, show B.isEmpty = false by simpa using hz, Bool.and_false]
      have hpos : 0 < B.length := List.length_pos_iff.2 hz
      have hd : decide ((0 : Int) < (B.length : Int)) = true := decide_eq_true (by omega)
      have hd2 : (0 : Int) < (B.length : Int) := by omega
      refine lay_start ?_
      go_enter Try.func16, Try.ntmps16
      go_wp2_with (go_at_call 29; refine (HGv.out _ (HS.out.lay _)).mono ?_; rintro e w' ⟨rfl, d, rfl⟩)
      refine (HBad.out _ (HS.out.lay _)).mono ?_
      rintro e w' ⟨vb, db, rfl, rfl, hvb⟩
      obtain ⟨gb, bc, rfl, -⟩ := hvb.form1 hpos
      have k0 := hvb.cell (i := 0) hpos
      have k1 := fun d => (hvb.bw d).cell (i := 0) hpos
      simp only [lay_bw] at k1
      rw [lay_bw] at k0 ⊢
      clear hvb
      generalize B.length = q at *
      go_wp2_with fail
      refine region_bw (by kernel_rfl) (by kernel_rfl) ?_
      repeat (go_big_quiet_step ((first | fail)))
      refine wpQuiet_nil ?_
      rintro w' ⟨d, rfl⟩
      rw [lay_bw]
      go_wp2
      exact bodyPost_ret (v := .tuple #[.bool false, .int .i64 (nth B 0), .int .i64 0]) (by simp [results, Try.results16, go_sem]) rfl ⟨rfl, lay_ex _ _⟩
  · rw [if_neg h0, decide_eq_false h0, Bool.false_and]
    obtain ⟨a, cap, rfl, -⟩ := hs
    have t1 : (gvE wr l bend == 0) = false := beq_eq_false_iff_ne.2 h0
    generalize gvE wr l bend = E at *
    clear h0
    refine lay_start ?_
    go_enter Try.func16, Try.ntmps16
    go_wp2_with (go_at_call 29; refine (HGv.out _ (HS.out.lay _)).mono ?_; rintro e w' ⟨rfl, d, rfl⟩)
    exact bodyPost_ret (v := .tuple #[.bool false, .int .i64 0, .int .i64 E]) (by simp [results, Try.results16, go_sem]) rfl ⟨rfl, lay_ex _ _⟩
/-- The call returns a row of its own, and an error. -/
def RwE (w : World) (l : List Int) (c : Int) (e : Ending) (w' : World) : Prop := ∃ v d, e = .returned (.tuple #[v, .int .i64 c]) ∧ w' = bw w d ∧ Ow (bw w d) w.heap.size v l
/-- What Repair returns. -/
def rprE (wr : Bool) (l : List Int) (bend at_ : Int) : Int :=
  if gvE wr l bend = 0 then (if 0 ≤ at_ ∧ at_ < l.length then (if repL wr l bend at_.toNat = [] then 12 else if 1000 < (repL wr l bend at_.toNat).length then 4 else 0) else 2) else gvE wr l bend
def rprL (wr : Bool) (l : List Int) (bend at_ : Int) : List Int := if rprE wr l bend at_ = 0 then repL wr l bend at_.toNat else []
set_option maxHeartbeats 1000000 in
theorem aud_Repair (v : Value) (l : List Int) (wr : Bool) (bend at_ : Int) (w : World) (hs : Sl w v l) :
    Calls Try.prog 18 #[v, .int .i64 bend, .int .i64 at_, .bool wr] w (RwE w (rprL wr l bend at_) (rprE wr l bend at_)) := by
  have HGv := Lib.hid (fun W (h : Sl W v l) => aud_given v l wr bend W h)
  have HS := Lib.hid hs
  unfold rprL
  have hE : rprE wr l bend at_ = if gvE wr l bend = 0 then (if 0 ≤ at_ ∧ at_ < l.length then (if repL wr l bend at_.toNat = [] then 12 else if 1000 < (repL wr l bend at_.toNat).length then 4 else 0) else 2) else gvE wr l bend := rfl
  by_cases h0 : gvE wr l bend = 0
  · obtain ⟨hg, b0, b1⟩ := gvE_0.1 h0
    rw [if_pos h0] at hE
    rw [h0] at HGv
    by_cases ha : 0 ≤ at_ ∧ at_ < l.length
    · obtain ⟨k, rfl⟩ := Int.eq_ofNat_of_zero_le ha.1
      have HR := Lib.hid (fun W (h : Sl W v l) => aud_repairs v l wr bend k W h hg b0 b1 (by omega))
      rw [if_pos ha, Int.toNat_natCast] at hE
      rw [Int.toNat_natCast]
      have t1 : (k : Int) < (l.length : Int) := ha.2
      obtain ⟨a, cap, rfl, -⟩ := hs
      clear h0 hg ha
      generalize repL wr l bend k = R at *
      generalize l.length = m at *
      have t0 : (0 : Int) ≤ (k : Int) := by omega
      by_cases hz : R = []
      · rw [if_pos hz] at hE
        subst hz
        rw [hE, if_neg (by decide)]
        refine lay_start ?_
        go_enter Try.func18, Try.ntmps18
        go_wp2_with (go_at_call 29; refine (HGv.out _ (HS.out.lay _)).mono ?_; rintro e w' ⟨rfl, d, rfl⟩)
        refine (HR.out _ (HS.out.lay _)).mono ?_
        rintro e w' ⟨vb, db, rfl, rfl, hvb⟩
        obtain ⟨ba, bc, rfl⟩ := hvb.form
        rw [lay_bw]
        clear hvb
        go_wp2
        obtain ⟨z, hz⟩ := lay_exb w [.inl (.cells #[.slice a m cap, .bool wr] 57 (0, 0)), .inr d] db
        exact bodyPost_ret (v := .tuple #[.slice none 0 0, .int .i64 12]) (by simp [results, Try.results18, go_sem]) rfl ⟨_, z, rfl, hz, Ow.nil _ _⟩
      · rw [if_neg hz] at hE
        have hpos : 0 < R.length := List.length_pos_iff.2 hz
        have hq : ((R.length : Int) == 0) = false := beq_eq_false_iff_ne.2 (by omega)
        by_cases hb : 1000 < R.length
        · rw [if_pos hb] at hE
          rw [hE, if_neg (by decide)]
          have hd : decide ((1000 : Int) < (R.length : Int)) = true := decide_eq_true (by omega)
          clear hz
          refine lay_start ?_
          go_enter Try.func18, Try.ntmps18
          go_wp2_with (go_at_call 29; refine (HGv.out _ (HS.out.lay _)).mono ?_; rintro e w' ⟨rfl, d, rfl⟩)
          refine (HR.out _ (HS.out.lay _)).mono ?_
          rintro e w' ⟨vb, db, rfl, rfl, hvb⟩
          obtain ⟨ba, bc, rfl⟩ := hvb.form
          rw [lay_bw]
          clear hvb
          generalize R.length = q at *
          go_wp2
          obtain ⟨z, hz⟩ := lay_exb w [.inl (.cells #[.slice a m cap, .bool wr] 57 (0, 0)), .inr d] db
          exact bodyPost_ret (v := .tuple #[.slice none 0 0, .int .i64 4]) (by simp [results, Try.results18, go_sem]) rfl ⟨_, z, rfl, hz, Ow.nil _ _⟩
        · rw [if_neg hb] at hE
          rw [hE, if_pos rfl]
          have hd : decide ((1000 : Int) < (R.length : Int)) = false := decide_eq_false (by omega)
          clear hz
          refine lay_start ?_
          go_enter Try.func18, Try.ntmps18
          go_wp2_with (go_at_call 29; refine (HGv.out _ (HS.out.lay _)).mono ?_; rintro e w' ⟨rfl, d, rfl⟩)
          refine (HR.out _ (HS.out.lay _)).mono ?_
          rintro e w' ⟨vb, db, rfl, rfl, hvb⟩
          obtain ⟨ba, bc, rfl⟩ := hvb.form
          rw [lay_bw]
          have HV := Lib.hid hvb
          clear hvb
          obtain ⟨q, hqq⟩ : ∃ q, R.length = q := ⟨_, rfl⟩
          rw [hqq] at hq hd HV hpos ⊢
          clear hqq
          go_wp2
          obtain ⟨z, hz⟩ := lay_exb w [.inl (.cells #[.slice a m cap, .bool wr] 57 (0, 0)), .inr d] db
          have h := HV.out
          rw [hz] at h
          exact bodyPost_ret (v := .tuple #[.slice ba q bc, .int .i64 0]) (by simp [results, Try.results18, go_sem]) rfl ⟨_, z, rfl, hz, h.le (lay_extends w _).size⟩
    · rw [if_neg ha] at hE
      rw [hE, if_neg (by decide)]
      obtain ⟨a, cap, rfl, -⟩ := hs
      generalize l.length = m at *
      clear hE h0 hg
      by_cases h1 : at_ < 0
      · have t1 : decide (at_ < 0) = true := decide_eq_true h1
        refine lay_start ?_
        go_enter Try.func18, Try.ntmps18
        go_wp2_with (go_at_call 29; refine (HGv.out _ (HS.out.lay _)).mono ?_; rintro e w' ⟨rfl, d, rfl⟩)
        obtain ⟨z, hz⟩ := lay_ex w [.inl (.cells #[.slice a m cap, .bool wr] 57 (0, 0)), .inr d]
        exact bodyPost_ret (v := .tuple #[.slice none 0 0, .int .i64 2]) (by simp [results, Try.results18, go_sem]) rfl ⟨_, z, rfl, hz, Ow.nil _ _⟩
      · have t1 : decide (at_ < 0) = false := decide_eq_false h1
        have t2 : (m : Int) ≤ at_ := by omega
        refine lay_start ?_
        go_enter Try.func18, Try.ntmps18
        go_wp2_with (go_at_call 29; refine (HGv.out _ (HS.out.lay _)).mono ?_; rintro e w' ⟨rfl, d, rfl⟩)
        obtain ⟨z, hz⟩ := lay_ex w [.inl (.cells #[.slice a m cap, .bool wr] 57 (0, 0)), .inr d]
        exact bodyPost_ret (v := .tuple #[.slice none 0 0, .int .i64 2]) (by simp [results, Try.results18, go_sem]) rfl ⟨_, z, rfl, hz, Ow.nil _ _⟩
  · rw [if_neg h0] at hE
    rw [hE, if_neg h0]
    obtain ⟨a, cap, rfl, -⟩ := hs
    have t1 : (gvE wr l bend == 0) = false := beq_eq_false_iff_ne.2 h0
    clear hE h0
    generalize gvE wr l bend = E at *
    generalize l.length = m at *
    refine lay_start ?_
    go_enter Try.func18, Try.ntmps18
    go_wp2_with (go_at_call 29; refine (HGv.out _ (HS.out.lay _)).mono ?_; rintro e w' ⟨rfl, d, rfl⟩)
    obtain ⟨z, hz⟩ := lay_ex w [.inl (.cells #[.slice a m cap, .bool wr] 57 (0, 0)), .inr d]
    exact bodyPost_ret (v := .tuple #[.slice none 0 0, .int .i64 E]) (by simp [results, Try.results18, go_sem]) rfl ⟨_, z, rfl, hz, Ow.nil _ _⟩
end Go.Proofs.Ytgpgfmemnhgmbaa

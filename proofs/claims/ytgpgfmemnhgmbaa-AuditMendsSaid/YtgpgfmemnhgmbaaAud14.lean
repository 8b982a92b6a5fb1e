/- audit: Suspects. -/
import Derived.Test.YtgpgfmemnhgmbaaProg
import Derived.Test.YtgpgfmemnhgmbaaLay
import Derived.Test.YtgpgfmemnhgmbaaRegion
import Derived.Test.YtgpgfmemnhgmbaaMix
import Derived.WalkKit
import Derived.WalkSpells
import Derived.WalkLawsBesides
import Derived.Lib.Hide
import Derived.BigQuiet
import Derived.Deep.RegionWith
import Derived.Test.YtgpgfmemnhgmbaaPlain
import Derived.Test.YtgpgfmemnhgmbaaAngle
import Derived.Test.YtgpgfmemnhgmbaaAud10
import Derived.Test.YtgpgfmemnhgmbaaTrs
namespace Go.Proofs.Ytgpgfmemnhgmbaa
open Go.RowKit

def susE (g d : List Int) (r : Int) : Int := if gvE true g r = 0 then gvE false d r else gvE true g r
/-- The call returns two slices that read as these lists, and an error. -/
def SusR (w : World) (l1 l2 : List Int) (c : Int) (e : Ending) (w' : World) : Prop := ∃ v1 v2 d, e = .returned (.tuple #[v1, v2, .int .i64 c]) ∧ w' = bw w d ∧ Sl (bw w d) v1 l1 ∧ Sl (bw w d) v2 l2
set_option maxHeartbeats 1000000 in
set_option maxRecDepth 100000 in
theorem aud_Suspects_ok (s : ByteArray) (vg vd : Value) (g d : List Int) (p q r : Int) (w : World) (hg : Sl w vg g) (hd : Sl w vd d) (h1 : gvE true g r = 0) (h2 : gvE false d r = 0) :
    Calls Try.prog 23 #[.agg #[.string s, vg, vd, .int .i64 p, .int .i64 q, .int .i64 r]] w (SusR w (susL true g r) (susL false d r) 0) := by
  obtain ⟨G1, b0, b1⟩ := gvE_0.1 h1
  obtain ⟨G2, _, _⟩ := gvE_0.1 h2
  have HG1 := Lib.hid (fun W (h : Sl W vg g) => aud_given vg g true r W h)
  have HG2 := Lib.hid (fun W (h : Sl W vd d) => aud_given vd d false r W h)
  rw [h1] at HG1
  rw [h2] at HG2
  have HS1 := Lib.hid (fun W (h : Sl W vg g) => aud_suspects vg g true r W h G1 b0 b1)
  have HS2 := Lib.hid (fun W (h : Sl W vd d) => aud_suspects vd d false r W h G2 b0 b1)
  have HL1 := Lib.hid hg
  have HL2 := Lib.hid hd
  obtain ⟨a1, c1, hv1, -⟩ := hg
  obtain ⟨a2, c2, hv2, -⟩ := hd
  subst hv1 hv2
  clear h1 h2 G1 G2
  generalize susL true g r = R1 at *
  generalize susL false d r = R2 at *
  generalize g.length = n1 at *
  generalize d.length = n2 at *
  refine lay_start ?_
  go_enter Try.func23, Try.ntmps23
  go_wp2_with fail
  refine (HG1.out _ (HL1.out.lay _)).mono ?_
  rintro e w' ⟨rfl, d1, rfl⟩
  rw [lay_bw]
  go_wp2_with fail
  refine (HG2.out _ (HL2.out.lay _)).mono ?_
  rintro e w' ⟨rfl, d2, rfl⟩
  rw [lay_bw]
  go_wp2_with fail
  refine region_mixP [(0, 0), (1, 0), (2, 0), (4, 0), (5, 0), (6, 0), (3, 1), (7, 1)] (by kernel_rfl) (by kernel_rfl) (by kernel_rfl) (by kernel_rfl) (by decide) (by kernel_rfl) ?_
  simp only [List.drop_succ_cons, List.drop_zero, List.length_cons, List.length_nil, Nat.reduceAdd]
  iterate 6 (refine wpMP_quiet rfl (fun K hK => ?_); go_simp; refine hK _ ?_; clear hK K)
  refine wpMP_special rfl (fun K hK e1 => ?_)
  go_simp
  refine (HS1.out _ (HL1.out.lay _)).mono ?_
  rintro e w' ⟨v1, da, rfl, rfl, ho1⟩
  have H1 : Hid (Sl (lay w [.inr da, .inr e1, .inl (.cells #[.slice a2 n2 c2, .bool false] 57 (0, 0)), .inr d2, .inl (.cells #[.slice a1 n1 c1, .bool true] 57 (0, 0)), .inr d1, .inl (.cells #[.string s, .slice a1 n1 c1, .slice a2 n2 c2, .int .i64 p, .int .i64 q, .int .i64 r] 49 (0, 0))]) v1 R1) := Lib.hid ho1.sl
  clear ho1
  refine ⟨v1, rfl, ?_⟩
  go_simp
  refine hK _ _ (lay_in w [_, _] _) ?_
  clear hK K
  refine wpMP_special rfl (fun K hK e2 => ?_)
  go_simp
  refine (HS2.out _ (HL2.out.lay _)).mono ?_
  rintro e w' ⟨v2, db, rfl, rfl, ho2⟩
  have H2 : Hid (Sl (lay w [.inr db, .inr e2, .inr da, .inr e1, .inl (.cells #[.slice a2 n2 c2, .bool false] 57 (0, 0)), .inr d2, .inl (.cells #[.slice a1 n1 c1, .bool true] 57 (0, 0)), .inr d1, .inl (.cells #[.string s, .slice a1 n1 c1, .slice a2 n2 c2, .int .i64 p, .int .i64 q, .int .i64 r] 49 (0, 0))]) v2 R2) := Lib.hid ho2.sl
  clear ho2
  refine ⟨v2, rfl, ?_⟩
  go_simp
  refine hK _ _ (lay_in w [_, _, _, _] _) ?_
  clear hK K
  refine wpMP_nil (fun e3 => ?_)
  rw [lay_bw]
  go_wp2
  obtain ⟨z, hz⟩ := lay_ex w [.inr e3, .inr db, .inr e2, .inr da, .inr e1, .inl (.cells #[.slice a2 n2 c2, .bool false] 57 (0, 0)), .inr d2, .inl (.cells #[.slice a1 n1 c1, .bool true] 57 (0, 0)), .inr d1, .inl (.cells #[.string s, .slice a1 n1 c1, .slice a2 n2 c2, .int .i64 p, .int .i64 q, .int .i64 r] 49 (0, 0))]
  have h1 := sl_on (A := [.inr e3, .inr db, .inr e2]) H1.out
  have h2 := sl_on (A := [.inr e3]) H2.out
  exact bodyPost_ret (v := .tuple #[v1, v2, .int .i64 0]) (by simp [results, Try.results23, go_sem]) rfl ⟨v1, v2, z, rfl, hz, hz ▸ h1, hz ▸ h2⟩
set_option maxHeartbeats 1000000 in
theorem aud_Suspects_no (s : ByteArray) (vg vd : Value) (g d : List Int) (p q r : Int) (w : World) (hg : Sl w vg g) (hd : Sl w vd d) (h : susE g d r ≠ 0) :
    Calls Try.prog 23 #[.agg #[.string s, vg, vd, .int .i64 p, .int .i64 q, .int .i64 r]] w (SusR w [] [] (susE g d r)) := by
  have HG1 := Lib.hid (fun W (h : Sl W vg g) => aud_given vg g true r W h)
  have HG2 := Lib.hid (fun W (h : Sl W vd d) => aud_given vd d false r W h)
  have HL1 := Lib.hid hg
  have HL2 := Lib.hid hd
  obtain ⟨a1, c1, hv1, -⟩ := hg
  obtain ⟨a2, c2, hv2, -⟩ := hd
  subst hv1 hv2
  have hE : susE g d r = if gvE true g r = 0 then gvE false d r else gvE true g r := rfl
  rw [hE] at h ⊢
  by_cases h1 : gvE true g r = 0
  · rw [if_pos h1] at h ⊢
    rw [h1] at HG1
    have t1 : (gvE false d r == 0) = false := beq_eq_false_iff_ne.2 h
    clear hE h h1
    generalize gvE false d r = E at *
    generalize g.length = n1 at *
    generalize d.length = n2 at *
    refine lay_start ?_
    go_enter Try.func23, Try.ntmps23
    go_wp2_with fail
    refine (HG1.out _ (HL1.out.lay _)).mono ?_
    rintro e w' ⟨rfl, d1, rfl⟩
    rw [lay_bw]
    go_wp2_with fail
    refine (HG2.out _ (HL2.out.lay _)).mono ?_
    rintro e w' ⟨rfl, d2, rfl⟩
    rw [lay_bw]
    go_wp2
    obtain ⟨z, hz⟩ := lay_ex w [.inl (.cells #[.slice a2 n2 c2, .bool false] 57 (0, 0)), .inr d2, .inl (.cells #[.slice a1 n1 c1, .bool true] 57 (0, 0)), .inr d1, .inl (.cells #[.string s, .slice a1 n1 c1, .slice a2 n2 c2, .int .i64 p, .int .i64 q, .int .i64 r] 49 (0, 0))]
    exact bodyPost_ret (v := .tuple #[.slice none 0 0, .slice none 0 0, .int .i64 E]) (by simp [results, Try.results23, go_sem]) rfl ⟨_, _, z, rfl, hz, Sl.nil _, Sl.nil _⟩
  · rw [if_neg h1] at h ⊢
    have t1 : (gvE true g r == 0) = false := beq_eq_false_iff_ne.2 h
    clear hE h h1 HG2
    generalize gvE true g r = E at *
    generalize g.length = n1 at *
    generalize d.length = n2 at *
    refine lay_start ?_
    go_enter Try.func23, Try.ntmps23
    go_wp2_with fail
    refine (HG1.out _ (HL1.out.lay _)).mono ?_
    rintro e w' ⟨rfl, d1, rfl⟩
    rw [lay_bw]
    go_wp2
    obtain ⟨z, hz⟩ := lay_ex w [.inl (.cells #[.slice a1 n1 c1, .bool true] 57 (0, 0)), .inr d1, .inl (.cells #[.string s, .slice a1 n1 c1, .slice a2 n2 c2, .int .i64 p, .int .i64 q, .int .i64 r] 49 (0, 0))]
    exact bodyPost_ret (v := .tuple #[.slice none 0 0, .slice none 0 0, .int .i64 E]) (by simp [results, Try.results23, go_sem]) rfl ⟨_, _, z, rfl, hz, Sl.nil _, Sl.nil _⟩
def susG (g d : List Int) (r : Int) : List Int := if susE g d r = 0 then susL true g r else []
def susD (g d : List Int) (r : Int) : List Int := if susE g d r = 0 then susL false d r else []
theorem aud_Suspects (s : ByteArray) (vg vd : Value) (g d : List Int) (p q r : Int) (w : World) (hg : Sl w vg g) (hd : Sl w vd d) :
    Calls Try.prog 23 #[.agg #[.string s, vg, vd, .int .i64 p, .int .i64 q, .int .i64 r]] w (SusR w (susG g d r) (susD g d r) (susE g d r)) := by
  unfold susG susD
  by_cases h : susE g d r = 0
  · rw [if_pos h, if_pos h, h]
    have h1 : gvE true g r = 0 := by unfold susE at h; split at h <;> assumption
    have h2 : gvE false d r = 0 := by unfold susE at h; rw [if_pos h1] at h; exact h
    exact aud_Suspects_ok s vg vd g d p q r w hg hd h1 h2
  · rw [if_neg h, if_neg h]
    exact aud_Suspects_no s vg vd g d p q r w hg hd h
end Go.Proofs.Ytgpgfmemnhgmbaa

/- Contracts and plain laws, several texts in one: Fc2; Fd1; Fd2; FeU -/
import Derived.Test.YtkhhdpndcidmgaaGreatProg
import Derived.WalkKit
import Derived.WalkSpells
import Derived.WalkLawsBesides
import Derived.Lib.Hide
import Derived.BigQuiet
import Derived.Test.YtkhhdpndcidmgaaGreatTAE
import Derived.Test.YtkhhdpndcidmgaaGreatTAF
import Derived.Test.YtkhhdpndcidmgaaGreatTAI
import Derived.Test.YtkhhdpndcidmgaaGreatTBO
import Derived.Test.YtkhhdpndcidmgaaGreatTBR
import Derived.Test.YtkhhdpndcidmgaaGreatTBV
/- cosine: Azimuth, Solve. -/
namespace Go.Proofs.YtkhhdpndcidmgaaGreat
set_option maxHeartbeats 1000000
set_option maxRecDepth 100000
open Go.RowKit

theorem cos_Azimuth (a0 a1 b0 b1 c0 c1 : Int) (w : World) (h : triB a0 a1 b0 b1 c0 c1 = true) :
    Calls Tryz.prog 35 #[(.agg #[.int .i64 (a0), .int .i64 (a1), .int .i64 (b0), .int .i64 (b1), .int .i64 (c0), .int .i64 (c1)])] w fun e w' => e = .returned (.tuple #[(.agg #[.int .i64 ((azF a0 a1 b0 b1 c0 c1).1), .int .i64 ((azF a0 a1 b0 b1 c0 c1).2)]), .int .i64 0]) ∧ ∃ d, w' = bw w d := by
  have HV := Lib.hid (fun W => cos_Valid a0 a1 b0 b1 c0 c1 W)
  rw [h] at HV
  unfold triB at h
  simp only [Bool.and_eq_true] at h
  have HA := Lib.hid (fun W => cos_azimuth a0 a1 b0 b1 c0 c1 W (lat_valid h.1.1) (lat_valid h.1.2) h.2)
  generalize (azF a0 a1 b0 b1 c0 c1).1 = u at *
  generalize (azF a0 a1 b0 b1 c0 c1).2 = v at *
  clear h
  refine lay_start ?_
  go_enter Tryz.func35, Tryz.ntmps35
  go_wp2_with (first | (go_at_call 27; refine (HV.out _).mono ?_; rintro e w' ⟨rfl, d1, rfl⟩; rw [lay_bw]) | (go_at_call 76; refine (HA.out _).mono ?_; rintro e w' ⟨rfl, d2, rfl⟩; rw [lay_bw]))
  exact bodyPost_ret (v := .tuple #[(.agg #[.int .i64 (u), .int .i64 (v)]), .int .i64 0]) (by simp [results, Tryz.results35, go_sem]) rfl ⟨rfl, lay_ex _ _⟩
noncomputable def alL (a0 a1 b0 b1 c0 c1 : Int) : Int := asL (altS0 a0 a1 b0 b1 c0 c1) (altS1 a0 a1 b0 b1 c0 c1)
noncomputable def alH (a0 a1 b0 b1 c0 c1 : Int) : Int := asH (altS0 a0 a1 b0 b1 c0 c1) (altS1 a0 a1 b0 b1 c0 c1)
theorem al_bd {a0 a1 b0 b1 c0 c1 : Int} (h : triB a0 a1 b0 b1 c0 c1 = true) : asE (altS0 a0 a1 b0 b1 c0 c1) (altS1 a0 a1 b0 b1 c0 c1) = 0 ∧ -5400000 ≤ alL a0 a1 b0 b1 c0 c1 ∧ alL a0 a1 b0 b1 c0 c1 ≤ alH a0 a1 b0 b1 c0 c1 ∧ alH a0 a1 b0 b1 c0 c1 ≤ 5400000 := by
  unfold triB at h
  simp only [Bool.and_eq_true] at h
  exact alt_someG h.1.1 h.1.2 (validB_iff.1 h.2).1
theorem cos_Solve (a0 a1 b0 b1 c0 c1 : Int) (w : World) (h : triB a0 a1 b0 b1 c0 c1 = true) :
    Calls Tryz.prog 9 #[(.agg #[.int .i64 (a0), .int .i64 (a1), .int .i64 (b0), .int .i64 (b1), .int .i64 (c0), .int .i64 (c1)])] w fun e w' => e = .returned (.tuple #[(.agg #[.int .i64 (alL a0 a1 b0 b1 c0 c1), .int .i64 (alH a0 a1 b0 b1 c0 c1), .int .i64 ((azF a0 a1 b0 b1 c0 c1).1), .int .i64 ((azF a0 a1 b0 b1 c0 c1).2)]), .int .i64 0]) ∧ ∃ d, w' = bw w d := by
  have HA := Lib.hid (fun W => cos_Altitude a0 a1 b0 b1 c0 c1 W h)
  have HZ := Lib.hid (fun W => cos_Azimuth a0 a1 b0 b1 c0 c1 W h)
  rw [(al_bd h).1] at HA
  change Hid (∀ W, Calls _ _ _ W fun e w' => e = .returned (.tuple #[(.agg #[.int .i64 (alL a0 a1 b0 b1 c0 c1), .int .i64 (alH a0 a1 b0 b1 c0 c1)]), .int .i64 0]) ∧ _) at HA
  generalize alL a0 a1 b0 b1 c0 c1 = p at *
  generalize alH a0 a1 b0 b1 c0 c1 = q at *
  generalize (azF a0 a1 b0 b1 c0 c1).1 = u at *
  generalize (azF a0 a1 b0 b1 c0 c1).2 = v at *
  clear h
  refine lay_start ?_
  go_enter Tryz.func9, Tryz.ntmps9
  go_wp2_with (first | (go_at_call 34; refine (HA.out _).mono ?_; rintro e w' ⟨rfl, d1, rfl⟩; rw [lay_bw]) | (go_at_call 35; refine (HZ.out _).mono ?_; rintro e w' ⟨rfl, d2, rfl⟩; rw [lay_bw]))
  exact bodyPost_ret (v := .tuple #[(.agg #[.int .i64 (p), .int .i64 (q), .int .i64 (u), .int .i64 (v)]), .int .i64 0]) (by simp [results, Tryz.results9, go_sem]) rfl ⟨rfl, lay_ex _ _⟩
end Go.Proofs.YtkhhdpndcidmgaaGreat
/- Candidates: what they are. -/
namespace Go.Proofs.YtkhhdpndcidmgaaGreat
open Go.RowKit Go.Shelf

structure SeenV where
  s : ByteArray
  h0 : Int
  h1 : Int
  z0 : Int
  z1 : Int
def seenR : RecT SeenV := { E := 68, S := 64, k := 5, bytes := 48, enc := fun x => [.string x.s, .int .i64 x.h0, .int .i64 x.h1, .int .i64 x.z0, .int .i64 x.z1], wf := fun x => x.s.size ≤ 9223372036854775807 }
theorem info_seen : (Tryz.prog.info? 68).map (fun i => (i.zero.map (fun z => z.cells.size), i.size, i.bytes)) = some (some 5, 5, 48) := by kernel_rfl
theorem seenOk : RecOk seenR where
  len _ := rfl
  one x u hu := by
    simp only [seenR, List.mem_cons, List.not_mem_nil, or_false] at hu
    rcases hu with rfl | rfl | rfl | rfl | rfl <;> rfl
  pos := by decide
  und := Tryz.underlying64
  info := recInfo info_seen
  small := by decide
def RowE {α : Type} (R : RecT α) (W : World) (l : List α) (e : Ending) (w' : World) : Prop := ∃ v d, e = .returned (.tuple #[v, .int .i64 0]) ∧ w' = bw W d ∧ OwG R (bw W d) W.heap.size v l
variable {lp : List PgV} {ls : List StarV} {a b u v x y : Int} {s : ByteArray}
end Go.Proofs.YtkhhdpndcidmgaaGreat
/- finder: given, latitude. -/
namespace Go.Proofs.YtkhhdpndcidmgaaGreat
open Go.RowKit Go.Shelf

set_option maxRecDepth 100000 in
theorem fn_given (bk : Nat) (a b u v x y : Int) (w : World) (ht : timB a b = true) (hp : plcW u v x y = true) :
    Calls Tryz.prog 68 #[.pointer (some ⟨bk, 0, none⟩), (.agg #[.int .i64 (a), .int .i64 (b)]), (.agg #[.int .i64 (u), .int .i64 (v), .int .i64 (x), .int .i64 (y)])] w fun e w' => e = .returned (.int .i64 0) ∧ ∃ d, w' = bw w d := by
  have HC := Lib.hid (fun W => clock_Valid a b W)
  have HP := Lib.hid (fun W => plc_Valid u v x y W)
  rw [ht] at HC
  rw [hp] at HP
  clear ht hp
  refine lay_start ?_
  go_enter Tryz.func68, Tryz.ntmps68
  go_wp2_with (first | (go_at_call 59; refine (HC.out _).mono ?_; rintro e w' ⟨rfl, d1, rfl⟩; rw [lay_bw]) | (go_at_call 106; refine (HP.out _).mono ?_; rintro e w' ⟨rfl, d2, rfl⟩; rw [lay_bw]))
  go_ret
  exact ⟨rfl, lay_ex _ _⟩
theorem fn_latitude (x0 y0 : Int) (w : World) :
    Calls Tryz.prog 66 #[(.agg #[.int .i64 (x0), .int .i64 (y0)])] w fun e w' => e = .returned (.bool (latB x0 y0)) ∧ ∃ d, w' = bw w d := by
  refine lay_start ?_
  go_enter Tryz.func66, Tryz.ntmps66
  go_wp2_with (go_at_call 32; refine (angle_Valid _ _ _).mono ?_; rintro e w' ⟨rfl, d, rfl⟩)
  all_goals go_ret
  all_goals exact ⟨ret_bool (by first | exact lat_w1 ‹_› ‹_› | exact lat_w2 ‹_› | exact lat_w3 ‹_›), lay_ex _ _⟩
end Go.Proofs.YtkhhdpndcidmgaaGreat
/- finder: Unknown, as a function. -/
namespace Go.Proofs.YtkhhdpndcidmgaaGreat
open Go.RowKit Go.Shelf

set_option maxHeartbeats 4000000 in
set_option maxRecDepth 100000 in
theorem fn_Unknown (a0 a1 b0 b1 c0 c1 g0 g1 l0 l1 z0 z1 p0 p1 q0 q1 : Int) (w : World) (h : triB a0 a1 b0 b1 c0 c1 = true) (hg : validB g0 g1 = true) (hl : validB l0 l1 = true) (hz : azF a0 a1 b0 b1 c0 c1 = (z0, z1))
    (hp : p0 = z0 + -(turnHi l0 l1) ∧ p1 = z1 + -(turnLo l0 l1)) (hq : q0 = p0 + -(turnHi g0 g1) ∧ q1 = p1 + -(turnLo g0 g1)) :
    Calls Tryz.prog 21 #[(.agg #[.int .i64 (a0), .int .i64 (a1)]), (.agg #[.int .i64 (b0), .int .i64 (b1)]), (.agg #[.int .i64 (c0), .int .i64 (c1)]), (.agg #[.int .i64 (g0), .int .i64 (g1)]), (.agg #[.int .i64 (l0), .int .i64 (l1)])] w fun e w' => e = .returned (.tuple #[(.agg #[.int .i64 (turnLo q0 q1), .int .i64 (turnHi q0 q1)]), (.agg #[.int .i64 (alL a0 a1 b0 b1 c0 c1), .int .i64 (alH a0 a1 b0 b1 c0 c1)]), .int .i64 0]) ∧ ∃ d, w' = bw w d := by
  have HS := Lib.hid (fun W => cos_Solve a0 a1 b0 b1 c0 c1 W h)
  have hb := brF_bd (azX a0 a1 b0 b1 c0 c1).1 (azX a0 a1 b0 b1 c0 c1).2 (azY b0 b1 c0 c1).1 (azY b0 b1 c0 c1).2
  change 0 ≤ (azF a0 a1 b0 b1 c0 c1).1 ∧ (azF a0 a1 b0 b1 c0 c1).1 ≤ (azF a0 a1 b0 b1 c0 c1).2 ∧ (azF a0 a1 b0 b1 c0 c1).2 ≤ 43200000 at hb
  rw [hz] at HS hb
  dsimp only at HS hb
  unfold triB at h
  simp only [Bool.and_eq_true] at h
  have HL1 := Lib.hid (fun W => fn_latitude a0 a1 W)
  have HL2 := Lib.hid (fun W => fn_latitude b0 b1 W)
  have HV1 := Lib.hid (fun W => angle_Valid c0 c1 W)
  have HV2 := Lib.hid (fun W => angle_Valid g0 g1 W)
  have HV3 := Lib.hid (fun W => angle_Valid l0 l1 W)
  rw [h.1.1] at HL1
  rw [h.1.2] at HL2
  rw [h.2] at HV1
  rw [hg] at HV2
  rw [hl] at HV3
  have tl := turn_bd (validB_iff.1 hl).1
  have tg := turn_bd (validB_iff.1 hg).1
  have vp : validB p0 p1 = true := validB_iff.2 (by omega)
  have vq : validB q0 q1 = true := validB_iff.2 (by omega)
  have vz : validB z0 z1 = true := validB_iff.2 (by omega)
  have HT1 := Lib.hid (fun W => angle_Turn l0 l1 W hl)
  have HT2 := Lib.hid (fun W => angle_Turn g0 g1 W hg)
  have HT3 := Lib.hid (fun W => angle_Turn q0 q1 W vq)
  have HS1 : Hid (∀ W, Calls _ _ #[_, _] W fun e w' => e = .returned (.tuple #[(.agg #[.int .i64 (p0), .int .i64 (p1)]), .int .i64 0]) ∧ _) := Lib.hid (fun W => by
    have := angle_Sub z0 z1 (turnLo l0 l1) (turnHi l0 l1) W vz (turn_valid (validB_iff.1 hl).1) (by rw [← hp.1, ← hp.2]; exact vp)
    rw [← hp.1, ← hp.2] at this
    exact this)
  have HS2 : Hid (∀ W, Calls _ _ #[_, _] W fun e w' => e = .returned (.tuple #[(.agg #[.int .i64 (q0), .int .i64 (q1)]), .int .i64 0]) ∧ _) := Lib.hid (fun W => by
    have := angle_Sub p0 p1 (turnLo g0 g1) (turnHi g0 g1) W vp (turn_valid (validB_iff.1 hg).1) (by rw [← hq.1, ← hq.2]; exact vq)
    rw [← hq.1, ← hq.2] at this
    exact this)
  clear h hg hl hz hp hq hb tl tg vp vq vz
  generalize alL a0 a1 b0 b1 c0 c1 = x0 at *
  generalize alH a0 a1 b0 b1 c0 c1 = x1 at *
  generalize turnLo q0 q1 = r0 at *
  generalize turnHi q0 q1 = r1 at *
  generalize turnLo l0 l1 = s0 at *
  generalize turnHi l0 l1 = s1 at *
  generalize turnLo g0 g1 = t0 at *
  generalize turnHi g0 g1 = t1 at *
  refine lay_start ?_
  go_enter Tryz.func21, Tryz.ntmps21
  go_wp2_with (first | (go_at_call 66; first | ((with_reducible refine (HL1.out _).mono ?_); rintro e w' ⟨rfl, dq, rfl⟩; rw [lay_bw]) | ((with_reducible refine (HL2.out _).mono ?_); rintro e w' ⟨rfl, dq, rfl⟩; rw [lay_bw])) | (go_at_call 32; first | ((with_reducible refine (HV1.out _).mono ?_); rintro e w' ⟨rfl, dq, rfl⟩; rw [lay_bw]) | ((with_reducible refine (HV2.out _).mono ?_); rintro e w' ⟨rfl, dq, rfl⟩; rw [lay_bw]) | ((with_reducible refine (HV3.out _).mono ?_); rintro e w' ⟨rfl, dq, rfl⟩; rw [lay_bw])) | (go_at_call 9; refine (HS.out _).mono ?_; rintro e w' ⟨rfl, dq, rfl⟩; rw [lay_bw]))
  refine wp_loop_rounds 3 ?_
  rw [rounds_succ]
  go_wp2_with (first | (go_at_call 8; refine (HT1.out _).mono ?_; rintro e w' ⟨rfl, dq, rfl⟩; rw [lay_bw]) | (go_at_call 67; refine (HS1.out _).mono ?_; rintro e w' ⟨rfl, dq, rfl⟩; rw [lay_bw]))
  rw [rounds_succ]
  go_wp2_with (first | (go_at_call 8; refine (HT2.out _).mono ?_; rintro e w' ⟨rfl, dq, rfl⟩; rw [lay_bw]) | (go_at_call 67; refine (HS2.out _).mono ?_; rintro e w' ⟨rfl, dq, rfl⟩; rw [lay_bw]))
  rw [rounds_succ]
  go_wp2_with (first | (go_at_call 8; refine (HT3.out _).mono ?_; rintro e w' ⟨rfl, dq, rfl⟩; rw [lay_bw]))
  go_region
  go_wp2_with fail
  refine bodyPost_ret (v := .tuple #[(.agg #[.int .i64 (r0), .int .i64 (r1)]), (.agg #[.int .i64 (x0), .int .i64 (x1)]), .int .i64 0]) (by simp [results, Tryz.results21, go_sem]) rfl ⟨rfl, ?_⟩
  rw [bw_drewExt, lay_bw]
  exact lay_ex _ _
end Go.Proofs.YtkhhdpndcidmgaaGreat

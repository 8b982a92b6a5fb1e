/- Contracts and plain laws, several texts in one: Lb1; APlain; Sl; Pgs; Cln; Rf4 -/
import GoSem.Core.Next
import Derived.Test.YtkhhdpndcidmgaaGreatProg
import Derived.WalkKit
import Derived.WalkSpells
import Derived.WalkLawsBesides
import Derived.Lib.Hide
import Derived.BigQuiet
import Derived.Deep.Slices
import Derived.Deep.AppendLies
import Derived.Laws.OwnMore
import Derived.WideShapes
import Derived.Lib.SmallJoins
import Derived.Deep.RegionWith
import Derived.Test.YtkhhdpndcidmgaaGreatTAC
import Derived.Test.YtkhhdpndcidmgaaGreatTAE
import Derived.Test.YtkhhdpndcidmgaaGreatTAF
import Derived.Test.YtkhhdpndcidmgaaGreatTAG
import Derived.Test.YtkhhdpndcidmgaaGreatTAI
import Derived.Test.YtkhhdpndcidmgaaGreatTAJ
import Derived.Test.YtkhhdpndcidmgaaGreatTAV
import Derived.Test.YtkhhdpndcidmgaaGreatTAW
import Derived.Test.YtkhhdpndcidmgaaGreatTAY
import Derived.Test.YtkhhdpndcidmgaaGreatTBA
/- Sines and cosines by 22 terms of their series, and a rotation of numbers of 160 bits that is near to them. No program in sight. -/
namespace Go.Proofs.YtkhhdpndcidmgaaGreat

def sinU (n : Nat) : Rat := xi n * (1 - tay (xi n * xi n) 2 22)
def cosU (n : Nat) : Rat := 1 - tay (xi n * xi n) 1 22
def litAU : List Int := adI [(dnT (piD * piD) 2 22 : Int)] (scI (-1) (liT (piN * piN) (piD * piD) 2 22))
def litBU : List Int := adI [(dnT (piD * piD) 1 22 : Int)] (scI (-1) (liT (piN * piN) (piD * piD) 1 22))
def facU : Nat := piD * dnT (piD * piD) 2 22 * dnT (piD * piD) 1 22
def lisSU : List Int := scI (dnT (piD * piD) 1 22 : Int) (0 :: inI (scI (piN : Int) litAU))
def lisCU : List Int := scI ((piD * dnT (piD * piD) 2 22 : Nat) : Int) (inI litBU)
theorem lisSU_ok (n : Nat) : sinU n * (facU : Rat) = ((evI lisSU (n : Int) : Int) : Rat) := by
  have h := lis_ok (a := piN) piD_ne n 2 22 (by decide)
  have hp : (piD : Rat) ≠ 0 := by exact_mod_cast piD_ne
  unfold sinU lisSU facU xi litAU
  simp only [evI_sc, evI, evI_in]
  rw [show ((n : Int) * (n : Int)) = ((n * n : Nat) : Int) by push_cast; rfl]
  push_cast at h ⊢
  rw [← h]
  generalize tay _ 2 22 = T
  generalize (dnT _ 2 22 : Rat) = F
  generalize (dnT _ 1 22 : Rat) = G
  generalize (piN : Rat) = A at *
  generalize (piD : Rat) = B at *
  grind
theorem lisCU_ok (n : Nat) : cosU n * (facU : Rat) = ((evI lisCU (n : Int) : Int) : Rat) := by
  have h := lis_ok (a := piN) piD_ne n 1 22 (by decide)
  unfold cosU lisCU facU xi litBU
  simp only [evI_sc, evI_in]
  rw [show ((n : Int) * (n : Int)) = ((n * n : Nat) : Int) by push_cast; rfl]
  push_cast at h ⊢
  rw [← h]
  generalize tay _ 1 22 = T
  generalize (dnT _ 2 22 : Rat) = F
  generalize (dnT _ 1 22 : Rat) = G
  generalize (piD : Rat) = B at *
  grind
def stpSU : List Int := adI (scI (facU : Int) (shI lisSU)) (adI (scI (-(evI lisCU 1)) lisSU) (scI (-(evI lisSU 1)) lisCU))
def stpCU : List Int := adI (scI (facU : Int) (shI lisCU)) (adI (scI (-(evI lisCU 1)) lisCU) (scI (evI lisSU 1) lisSU))
def k160 : Nat := 1461501637330902918203684832716283019655932542976
theorem stpSU_ab : abI stpSU 2700000 * k160 ≤ facU * facU := by decide +kernel
theorem stpCU_ab : abI stpCU 2700000 * k160 ≤ facU * facU := by decide +kernel
theorem facU_pos : 0 < facU := by decide +kernel
theorem facU_rat : (0 : Rat) < (facU : Rat) := by exact_mod_cast facU_pos
theorem k160_rat : (0 : Rat) < (k160 : Rat) := by exact_mod_cast (show 0 < k160 by decide)
theorem eps_ofU {M W : Nat} (h : M * k160 ≤ W) : (M : Rat) ≤ 1 / (k160 : Rat) * (W : Rat) := by
  have h1 : (M : Rat) * (k160 : Rat) ≤ (W : Rat) := by exact_mod_cast h
  have h0 := k160_rat
  have hi : 0 < 1 / (k160 : Rat) := by rw [Rat.div_def, Rat.one_mul]; exact Rat.inv_pos.2 h0
  have h2 := Rat.mul_le_mul_of_nonneg_left h1 (Rat.le_of_lt hi)
  have h3 : 1 / (k160 : Rat) * (k160 : Rat) = 1 := by rw [Rat.div_mul_cancel (by grind)]
  generalize 1 / (k160 : Rat) = i at *
  generalize (k160 : Rat) = k at *
  have e : i * ((M : Rat) * k) = i * k * (M : Rat) := by grind
  rw [h3, Rat.one_mul] at e
  rw [e] at h2
  exact h2
theorem sinU_step {n : Nat} (h : n ≤ 2700000) : Nr (sinU (n + 1)) (sinU n * cosU 1 + cosU n * sinU 1) (1 / (k160 : Rat)) := by
  have h1 := lisSU_ok (n + 1)
  have h2 := lisSU_ok n
  have h3 := lisCU_ok n
  have h4 := lisSU_ok 1
  have h5 := lisCU_ok 1
  have hb := Nat.le_trans (Nat.mul_le_mul_right _ (evI_ab (x := (n : Int)) (N := 2700000) (by omega) stpSU)) stpSU_ab
  have hW := facU_rat
  refine nr_of_int (W := (facU : Rat) * facU) (x := evI stpSU (n : Int)) (Rat.mul_pos hW hW) ?_ (Nat.le_refl _) (by have := eps_ofU hb; rw [Rat.natCast_mul] at this; exact this)
  unfold stpSU
  simp only [evI_ad, evI_sc, evI_sh]
  push_cast at h1 h2 h3 h4 h5 ⊢
  rw [← h1, ← h2, ← h3, ← h4, ← h5]
  grind
theorem cosU_step {n : Nat} (h : n ≤ 2700000) : Nr (cosU (n + 1)) (cosU n * cosU 1 - sinU n * sinU 1) (1 / (k160 : Rat)) := by
  have h1 := lisCU_ok (n + 1)
  have h2 := lisSU_ok n
  have h3 := lisCU_ok n
  have h4 := lisSU_ok 1
  have h5 := lisCU_ok 1
  have hb := Nat.le_trans (Nat.mul_le_mul_right _ (evI_ab (x := (n : Int)) (N := 2700000) (by omega) stpCU)) stpCU_ab
  have hW := facU_rat
  refine nr_of_int (W := (facU : Rat) * facU) (x := evI stpCU (n : Int)) (Rat.mul_pos hW hW) ?_ (Nat.le_refl _) (by have := eps_ofU hb; rw [Rat.natCast_mul] at this; exact this)
  unfold stpCU
  simp only [evI_ad, evI_sc, evI_sh]
  push_cast at h1 h2 h3 h4 h5 ⊢
  rw [← h1, ← h2, ← h3, ← h4, ← h5]
  grind
theorem cosU_in {n : Nat} (h : n ≤ 2700001) : 17 / 25 ≤ cosU n ∧ cosU n ≤ 1 := by
  have hq := sq_in (xi_in h)
  obtain ⟨t0, t1⟩ := tay_in hq.1 (by grind) (m := 22) (d := 1) (by decide)
  unfold cosU
  constructor <;> grind
theorem sinU_in {n : Nat} (h : n ≤ 2700001) : 0 ≤ sinU n ∧ sinU n ≤ xi n := by
  have hx := xi_in h
  have hq := sq_in hx
  obtain ⟨t0, t1⟩ := tay_in hq.1 (by grind) (m := 22) (d := 2) (by decide)
  unfold sinU
  have h1 : (0 : Rat) ≤ 1 - tay (xi n * xi n) 2 22 := by grind
  have h2 := rmul0 hx.1 h1
  have h3 := Rat.mul_le_mul_of_nonneg_left (show 1 - tay (xi n * xi n) 2 22 ≤ 1 by grind) hx.1
  constructor <;> grind
def s1U : Nat := 425133593245199460169970897845407932666872
def c1U : Nat := 1461501637330841085028993473485354317854231948077
theorem oneU_ab : (evI lisSU 1 * k160 - s1U * (facU : Int)).natAbs ≤ facU ∧ (evI lisCU 1 * k160 - c1U * (facU : Int)).natAbs ≤ facU := by decide +kernel
theorem oneU_near : Nr ((s1U : Rat) / (k160 : Rat)) (sinU 1) (1 / (k160 : Rat)) ∧ Nr ((c1U : Rat) / (k160 : Rat)) (cosU 1) (1 / (k160 : Rat)) := by
  obtain ⟨h1, h2⟩ := oneU_ab
  have h3 := lisSU_ok 1
  have h4 := lisCU_ok 1
  have hW := facU_rat
  have hk := k160_rat
  have hM : ((facU : Nat) : Rat) ≤ 1 / (k160 : Rat) * ((k160 : Rat) * (facU : Rat)) := by
    have : 1 / (k160 : Rat) * (k160 : Rat) = 1 := by rw [Rat.div_mul_cancel (by grind)]
    rw [← Rat.mul_assoc, this, Rat.one_mul]
    exact Rat.le_refl
  have hks : (s1U : Rat) / (k160 : Rat) * (k160 : Rat) = (s1U : Rat) := Rat.div_mul_cancel (by grind)
  have hkc : (c1U : Rat) / (k160 : Rat) * (k160 : Rat) = (c1U : Rat) := Rat.div_mul_cancel (by grind)
  constructor
  · refine (nr_of_int (W := (k160 : Rat) * (facU : Rat)) (x := evI lisSU 1 * k160 - s1U * (facU : Int)) (Rat.mul_pos hk hW) ?_ h1 hM).symm
    push_cast at h3 ⊢
    rw [← h3]
    generalize (s1U : Rat) / (k160 : Rat) = q at *
    grind
  · refine (nr_of_int (W := (k160 : Rat) * (facU : Rat)) (x := evI lisCU 1 * k160 - c1U * (facU : Int)) (Rat.mul_pos hk hW) ?_ h2 hM).symm
    push_cast at h4 ⊢
    rw [← h4]
    generalize (c1U : Rat) / (k160 : Rat) = q at *
    grind
theorem sinU_zero : sinU 0 = 0 := by unfold sinU xi; grind
theorem cosU_zero : cosU 0 = 1 := by
  have : xi 0 * xi 0 = 0 := by unfold xi; grind
  unfold cosU
  rw [this, tay_zero]
  grind
end Go.Proofs.YtkhhdpndcidmgaaGreat
/- Audit, the plain law: steps, differences, possible lists, repairs. No program in sight. -/
namespace Go.Proofs.YtkhhdpndcidmgaaGreat
open Go.RowKit

def nth (g : List Int) (i : Nat) : Int := g.getD i 0
end Go.Proofs.YtkhhdpndcidmgaaGreat
/- Slices of ints that are read; rows of ints of the call's own; an append to such a row. -/
namespace Go.Proofs.YtkhhdpndcidmgaaGreat
open Go.RowKit

section
variable {H : Type} {enc : TypeId × Value → H} {P : Program}
end

end Go.Proofs.YtkhhdpndcidmgaaGreat
/- Tracks and pages in memory: rows of records whose cells hold slices; what lies where ('P' of the blocks). -/
namespace Go.Proofs.YtkhhdpndcidmgaaGreat
open Go.RowKit

structure PgW where
  y : Int
  m : Int
  d : Int
  ta : Option Addr
  tn : Nat
  tc : Nat
def pgR : RecT PgW := { E := 94, S := 88, k := 4, bytes := 48, enc := fun x => [.int .i64 x.y, .int .i64 x.m, .int .i64 x.d, .slice x.ta x.tn x.tc], wf := fun x => (Lit.int .i64 x.y).wf = true ∧ (Lit.int .i64 x.m).wf = true ∧ (Lit.int .i64 x.d).wf = true }
theorem info_pg : (Tryz.prog.info? 94).map (fun i => (i.zero.map (fun z => z.cells.size), i.size, i.bytes)) = some (some 4, 4, 48) := by kernel_rfl
theorem pgOk : RecOk pgR where
  len _ := rfl
  one x u hu := by
    simp only [pgR, List.mem_cons, List.not_mem_nil, or_false] at hu
    rcases hu with rfl | rfl | rfl | rfl <;> rfl
  pos := by decide
  und := Tryz.underlying88
  info := recInfo info_pg
  small := by decide

structure PgV where
  y : Int
  m : Int
  d : Int
  ts : List TrkV
end Go.Proofs.YtkhhdpndcidmgaaGreat
/- slices.Clone at rows of records: a row of the call's own that holds the same records. -/
namespace Go.Proofs.YtkhhdpndcidmgaaGreat
open Go.RowKit

def ClnPost {α : Type} (R : RecT α) (w : World) (l : List α) (e : Ending) (w' : World) : Prop := ∃ v' d, e = .returned v' ∧ w' = bw w d ∧ OwG R (bw w d) w.heap.size v' l
set_option maxHeartbeats 1000000 in
set_option maxRecDepth 100000 in
theorem cln_Star (v : Value) (l : List StarV) (w : World) (hv : SlG stR w v l) (hn : l.length ≤ 1000000000) :
    Calls Tryz.prog 53 #[v] w (ClnPost stR w l) := by
  unfold ClnPost
  by_cases hz : l = []
  · subst hz
    obtain ⟨a, c, rfl⟩ := hv.form
    cases a with
    | none =>
      refine lay_start ?_
      have qT : ∀ (w : World) (a : Option Addr) (n c : Nat), (binOp .eql 47 (.slice a n c) (.slice none 0 0)).run Tryz.prog w = .ok (.bool a.isNone) w := fun w a n c => Lib.run_eql_slice_nil w _ _ a n c 0 0 stOk.und
      go_enter Tryz.func53, Tryz.ntmps53
      go_wp2_with fail
      go_ret
      exact ⟨_, noExt _, rfl, (bw_noExt _).symm, OwG.nil _ _ _⟩
    | some a =>
      refine lay_start ?_
      have HV := Lib.hid (fun L => hv.lay L)
      have qT : ∀ (w : World) (a : Option Addr) (n c : Nat), (binOp .eql 47 (.slice a n c) (.slice none 0 0)).run Tryz.prog w = .ok (.bool a.isNone) w := fun w a n c => Lib.run_eql_slice_nil w _ _ a n c 0 0 stOk.und
      go_enter Tryz.func53, Tryz.ntmps53
      go_wp2_with (at_builtin; refine push_slG stOk rfl _ _ rfl (lay w []) _ _ _ (some a) 0 c [] (lay_belowG (A := [_]) (B := [])) (owG_empty' _ (A := []) (B := []) (L := [])) (HV.out _) (fun h => by cases h) rfl rfl (by simp) ?_; intro v' d' hv')
      obtain ⟨va, vc, hve⟩ := hv'.form
      have H' := Lib.hid hv'
      subst hve
      clear hv'
      go_wp2_with fail
      go_ret
      exact ⟨_, d', rfl, rfl, H'.out⟩
  · obtain ⟨b, o, cap, rfl, hc, hb, hr⟩ := hv.open (List.length_pos_iff.2 hz)
    have HV := Lib.hid (fun L => hv.lay L)
    have HN := Lib.hid hn
    clear hr hv hz
    refine lay_start ?_
    have qT : ∀ (w : World) (a : Option Addr) (n c : Nat), (binOp .eql 47 (.slice a n c) (.slice none 0 0)).run Tryz.prog w = .ok (.bool a.isNone) w := fun w a n c => Lib.run_eql_slice_nil w _ _ a n c 0 0 stOk.und
    go_enter Tryz.func53, Tryz.ntmps53
    go_wp2_with (at_builtin; refine push_slG stOk rfl _ _ rfl (lay w []) _ _ [] (some ⟨b, o, none⟩) l.length cap l (lay_belowG (A := [_]) (B := [])) (owG_empty' _ (A := []) (B := []) (L := [])) (HV.out _) (fun h => by cases h) rfl rfl (by simpa using HN.out) ?_; intro v' d' hv')
    obtain ⟨va, vc, hve⟩ := hv'.form
    have H' := Lib.hid hv'
    subst hve
    clear hv'
    go_wp2_with fail
    go_ret
    exact ⟨_, d', rfl, rfl, H'.out⟩
end Go.Proofs.YtkhhdpndcidmgaaGreat
/- The unwrapped hour angles: increments.angles and the reference. -/
namespace Go.Proofs.YtkhhdpndcidmgaaGreat
open Go.RowKit

def ang (g : List Int) : Nat → Int
  | 0 => 100 * nth g 0
  | k + 1 => ang g k + (100 * (nth g (k + 1) - nth g k)) % 21600000
end Go.Proofs.YtkhhdpndcidmgaaGreat

/- Contracts and plain laws, several texts in one: Alm3; Alm4; MixB; RowS; RowB; Cln -/
import Derived.Test.YtnnmfdeeicpdlaaGreatProg
import Derived.WalkKit
import Derived.WalkSpells
import Derived.WalkLawsBesides
import Derived.Lib.Hide
import Derived.BigQuiet
import Derived.Test.YtnnmfdeeicpdlaaGreatSAA
import Derived.Test.YtnnmfdeeicpdlaaGreatSAC
import Derived.Test.YtnnmfdeeicpdlaaGreatSAD
import Derived.Test.YtnnmfdeeicpdlaaGreatSAF
import Derived.Test.YtnnmfdeeicpdlaaGreatSAI
import Derived.Test.YtnnmfdeeicpdlaaGreatSAJ
import Derived.Test.YtnnmfdeeicpdlaaGreatSAL
import Derived.Test.YtnnmfdeeicpdlaaGreatSAM
/- almanac.star: where a star is over a time. -/
namespace Go.Proofs.YtnnmfdeeicpdlaaGreat
open Go.RowKit

theorem turn_bd {x y : Int} (h : x ≤ y) : 0 ≤ turnLo x y ∧ turnLo x y ≤ 21599999 ∧ turnLo x y ≤ turnHi x y ∧ turnHi x y ≤ turnLo x y + 21600000 := by
  unfold turnLo turnHi
  split <;> omega
theorem turn_valid {x y : Int} (h : x ≤ y) : validB (turnLo x y) (turnHi x y) = true := by
  have := turn_bd h
  rw [validB_iff]; omega
def agL (a b : Int) : Int := turnLo (ariF a) (ariU b)
def agH (a b : Int) : Int := turnHi (ariF a) (ariU b)
theorem ag_bd {a b : Int} (h : a ≤ b) : 0 ≤ agL a b ∧ agL a b ≤ 21599999 ∧ agL a b ≤ agH a b ∧ agH a b ≤ agL a b + 21600000 := turn_bd (ariF_le h)
theorem ag_valid {a b : Int} (h : a ≤ b) : validB (agL a b) (agH a b) = true := turn_valid (ariF_le h)
def sgL (a b sha : Int) : Int := turnLo (agL a b + (100 * sha - 50)) (agH a b + (100 * sha + 50))
def sgH (a b sha : Int) : Int := turnHi (agL a b + (100 * sha - 50)) (agH a b + (100 * sha + 50))
def dcL (n : Int) : Int := mx (100 * n - 50) (-5400000)
def dcH (n : Int) : Int := mn (100 * n + 50) 5400000
set_option maxHeartbeats 1000000 in
set_option maxRecDepth 100000 in
theorem alm_star (s : ByteArray) (sha dec mag a b : Int) (w : World) (hv : timB a b = true) (h0 : 0 ≤ sha) (h1 : sha ≤ 215999) (d0 : -54000 ≤ dec) (d1 : dec ≤ 54000) :
    Calls Tryz.prog 110 #[.agg #[.string s, .int .i64 sha, .int .i64 dec, .int .i64 mag], (.agg #[.int .i64 (a), .int .i64 (b)])] w fun e w' =>
      e = .returned (.tuple #[(.agg #[.int .i64 (sgL a b sha), .int .i64 (sgH a b sha), .int .i64 (dcL dec), .int .i64 (dcH dec), .int .i64 (0), .int .i64 (0), .int .i64 (0), .int .i64 (0)]), .int .i64 0]) ∧ ∃ d, w' = bw w d := by
  obtain ⟨g1, g2, g3⟩ := timB_iff.1 hv
  have HI := Lib.hid (fun w => sid_Interval a b w hv)
  have HA := Lib.hid (fun w => alm_around sha w (by omega) (by omega))
  have HD := Lib.hid (fun w => alm_around dec w (by omega) (by omega))
  have b1 := ag_bd g1
  have HS := Lib.hid (fun w => angle_Add (agL a b) (agH a b) (100 * sha - 50) (100 * sha + 50) w (ag_valid g1) (validB_iff.2 (by omega)) (validB_iff.2 (by omega)))
  have HT := Lib.hid (fun w => angle_Turn (agL a b + (100 * sha - 50)) (agH a b + (100 * sha + 50)) w (validB_iff.2 (by omega)))
  unfold sgL sgH dcL dcH
  change Hid (∀ w, Calls Tryz.prog _ _ w fun e w' => e = .returned (.tuple #[(.agg #[.int .i64 (agL a b), .int .i64 (agH a b)]), .int .i64 0]) ∧ ∃ d, w' = bw w d) at HI
  generalize agL a b = x at *
  generalize agH a b = y at *
  generalize turnLo (x + (100 * sha - 50)) (y + (100 * sha + 50)) = p at *
  generalize turnHi (x + (100 * sha - 50)) (y + (100 * sha + 50)) = q at *
  clear g1 g2 g3 hv b1
  refine lay_start ?_
  go_enter Tryz.func110, Tryz.ntmps110
  go_wp2_with (first | (go_at_call 109; refine (HI.out _).mono ?_; rintro e w' ⟨rfl, dI, rfl⟩))
  refine region_mixC [(1, 0), (2, 0), (3, 0), (0, 1), (4, 0), (5, 0), (6, 0), (7, 0), (8, 1), (9, 0)] (lay w [.inr dI, .inl (.cells #[.int .i64 0, .int .i64 0, .int .i64 0, .int .i64 0, .int .i64 0, .int .i64 0, .int .i64 0, .int .i64 0] 69 (0, 0)), .inl (.cells #[.int .i64 a, .int .i64 b] 39 (0, 0)), .inl (.cells #[.string s, .int .i64 sha, .int .i64 dec, .int .i64 mag] 32 (0, 0))]) (by kernel_rfl) (by kernel_rfl) (by kernel_rfl) rfl (by first | exact lay_in w [] _ | exact lay_in w [_] _ | exact lay_in w [_, _] _ | exact lay_in w [_, _, _] _ | exact lay_in w [_, _, _, _] _) ?_
  repeat (first | (refine wpMP_quiet rfl (fun K hK => ?_); go_simp; first | (refine hK _ ?_; clear hK K) | (apply Exists.intro; refine ⟨fun _ => ?_, hK _ ?_⟩; (first | (go_at_call 189; exact bq (HA.out _) (fun d => ⟨d, rfl⟩)) | (go_at_call 189; exact bq (HA.out _) (fun d => lay_join _ _ _ d)) | (go_at_call 112; exact bq (HS.out _) (fun d => ⟨d, rfl⟩)) | (go_at_call 112; exact bq (HS.out _) (fun d => lay_join _ _ _ d))); clear hK K)) | (refine wpMP_special rfl (fun K hK d => ?_); go_simp; refine hK _ _ (by first | exact lay_in w [_] _ | exact lay_in w [_, _] _ | exact lay_in w [_, _, _] _ | exact lay_in w [_, _, _, _] _ | exact lay_in w [_, _, _, _, _] _ | exact lay_in w [_, _, _, _, _, _] _) ?_; clear hK K))
  refine wpMP_nil ?_
  intro d
  rw [lay_bw]
  go_wp2_with (first | (go_at_call 21; refine (HT.out _).mono ?_; rintro e w' ⟨rfl, d, rfl⟩) | (go_at_call 189; refine (HD.out _).mono ?_; rintro e w' ⟨rfl, d, rfl⟩))
  all_goals exact bodyPost_ret (v := .tuple #[(.agg #[.int .i64 (p), .int .i64 (q), .int .i64 (mx (100 * dec - 50) (-5400000)), .int .i64 (mn (100 * dec + 50) 5400000), .int .i64 (0), .int .i64 (0), .int .i64 (0), .int .i64 (0)]), .int .i64 0]) (by simp [results, Tryz.results110, go_sem]) rfl ⟨rfl, lay_ex _ _⟩
end Go.Proofs.YtnnmfdeeicpdlaaGreat
/- (*almanac.Book).Where for Aries and for stars. -/
namespace Go.Proofs.YtnnmfdeeicpdlaaGreat
set_option maxHeartbeats 1000000
open Go.RowKit

theorem alm_Where1 (x : StarV) (s : ByteArray) (b : Nat) (w : World) (hb : b < w.heap.size) (hc : w.cell? ⟨b, 0, none⟩ = some (.string s)) :
    Calls Tryz.prog 108 #[.agg #[.string x.s, .int .i64 x.sha, .int .i64 x.dec, .int .i64 x.mag], .pointer (some ⟨b, 0, none⟩)] w fun e w' => e = .returned (.bool (nmB x.s s)) ∧ ∃ d, w' = bw w d := by
  obtain ⟨xs, x1, x2, x3⟩ := x
  dsimp only
  refine lay_start ?_
  go_enter Tryz.func108, Tryz.ntmps108
  go_wp2
  go_ret
  exact ⟨rfl, lay_ex _ _⟩
def ariesS : ByteArray := ⟨#[65, 114, 105, 101, 115]⟩
theorem aries_list : ariesS.toList = [65, 114, 105, 101, 115] := by rw [ByteArray.toList_eq]; rfl
structure Bk (w : World) (b : Nat) (vd vp vs : Value) : Prop where
  lt : b < w.heap.size
  c0 : w.cell? ⟨b, 0, none⟩ = some vd
  c1 : w.cell? ⟨b, 1, none⟩ = some vp
  c2 : w.cell? ⟨b, 2, none⟩ = some vs
theorem Bk.lay {w : World} {b : Nat} {vd vp vs : Value} (h : Bk w b vd vp vs) (L : List (Obj ⊕ Ext)) : Bk (lay w L) b vd vp vs :=
  ⟨Nat.lt_of_lt_of_le h.lt (lay_extends w L).size, (lay_old w L 0 b h.lt).trans h.c0, (lay_old w L 1 b h.lt).trans h.c1, (lay_old w L 2 b h.lt).trans h.c2⟩
theorem alm_Where_star (bk : Nat) (vd vp vs : Value) (l : List StarV) (i : Nat) (x : StarV) (s : ByteArray) (a b : Int) (w : World) (hB : Bk w bk vd vp vs) (hv : SlG stR w vs l)
    (hx : l[i]? = some x) (hi : fndS l s = (i : Int)) (hne : (s.toList == [65, 114, 105, 101, 115]) = false) (ht : timB a b = true) (hw : b - a < 86400000) (h0 : 0 ≤ x.sha) (h1 : x.sha ≤ 215999) (d0 : -54000 ≤ x.dec) (d1 : x.dec ≤ 54000) :
    Calls Tryz.prog 30 #[.pointer (some ⟨bk, 0, none⟩), .string s, (.agg #[.int .i64 (a), .int .i64 (b)])] w fun e w' =>
      e = .returned (.tuple #[(.agg #[.int .i64 (sgL a b x.sha), .int .i64 (sgH a b x.sha), .int .i64 (dcL x.dec), .int .i64 (dcH x.dec), .int .i64 (0), .int .i64 (0), .int .i64 (0), .int .i64 (0)]), .int .i64 0]) ∧ ∃ d, w' = bw w d := by
  obtain ⟨g1, g2, g3⟩ := timB_iff.1 ht
  have HV := Lib.hid (fun W => clock_Valid a b W)
  rw [ht] at HV
  have HS := Lib.hid (fun W => alm_star x.s x.sha x.dec x.mag a b W ht h0 h1 d0 d1)
  have eI : ∀ args w, (callFunc 108 args).run Tryz.prog w = .ok (.enter 108 args) w := enters_of Tryz.func108 (by kernel_rfl) rfl
  have HI := Lib.hid (fun L b' (hb : b' < (lay w L).heap.size) (hc : ∀ d, (lay w (.inr d :: L)).cell? ⟨b', 0, none⟩ = some (.string s)) => st_IndexFunc 108 [.pointer (some ⟨b', 0, none⟩)] (fun x => nmB x.s s) vs l (lay w L) (hv.lay L) eI (fun x _ d =>
    alm_Where1 x s b' (lay w (.inr d :: L)) (Nat.lt_of_lt_of_le hb (bw_le _ d)) (hc d) |>.mono fun e w' ⟨h1, d2, h2⟩ => ⟨h1, _, h2.trans (bw_bw _ _ _)⟩))
  change Hid (∀ L b' hb hc, Calls Tryz.prog _ _ _ (IdxPost (lay w L) (fndS l s))) at HI
  rw [hi] at HI
  have hil : i < l.length := (List.getElem?_eq_some_iff.1 hx).1
  obtain ⟨bs, os, cs, rfl, hcs, hbs, hr⟩ := hv.open (by omega)
  have r0 : w.cell? ⟨bs, os + i * 4, none⟩ = some (.string x.s) := hr i x hx 0 _ rfl
  have r1 : w.cell? ⟨bs, os + i * 4 + 1, none⟩ = some (.int .i64 x.sha) := hr i x hx 1 _ rfl
  have r2 : w.cell? ⟨bs, os + i * 4 + 2, none⟩ = some (.int .i64 x.dec) := hr i x hx 2 _ rfl
  have r3 : w.cell? ⟨bs, os + i * 4 + 3, none⟩ = some (.int .i64 x.mag) := hr i x hx 3 _ rfl
  obtain ⟨k0, k1, k2, k3⟩ := hB
  have z3 : decide ((86400000 : Int) ≤ wrap64 (b - a)) = false := decide_eq_false (by unfold wrap64; omega)
  have x0 : (0 : Int) ≤ (i : Int) := by omega
  have x1 : (i : Int) < (l.length : Int) := by omega
  generalize l.length = m at *
  generalize sgL a b x.sha = p at *
  generalize sgH a b x.sha = q at *
  clear hx hi hv ht g1 g2 g3 hr eI
  obtain ⟨xs, xa, xb, xc⟩ := x
  dsimp only at *
  refine lay_start ?_
  go_enter Tryz.func30, Tryz.ntmps30
  go_wp2_with (first | (go_at_call 106; refine (HV.out _).mono ?_; rintro e w' ⟨rfl, dV, rfl⟩))
  refine (HI.out _ _ (by simp only [lay_size, shp, posn, List.sum_cons, List.sum_nil]; omega) (fun d => by simp [go_sem])).mono ?_
  rintro e w' ⟨rfl, dJ, rfl⟩
  rw [lay_bw]
  have z1 : decide ((i : Int) < 0) = false := decide_eq_false (by omega)
  have z2 : decide ((0 : Int) ≤ (i : Int)) = true := decide_eq_true (by omega)
  go_wp2_with fail
  refine region_bw (by kernel_rfl) (by kernel_rfl) ?_
  repeat (go_big_quiet_step ((first | fail)))
  refine wpQuiet_nil ?_
  rintro w' ⟨dK, rfl⟩
  rw [lay_bw]
  go_wp2_with fail
  refine region_mixC [(0, 0), (1, 0), (2, 0), (3, 0), (4, 0), (5, 0), (6, 0), (7, 0), (8, 0), (9, 0), (10, 0), (11, 0), (12, 1), (13, 0)] (lay w [.inr dK, .inr dJ, .inr dV, .inl (.cells #[.int .i64 0, .int .i64 0, .int .i64 0, .int .i64 0, .int .i64 0, .int .i64 0, .int .i64 0, .int .i64 0] 69 (0, 0)), .inl (.cells #[.int .i64 a, .int .i64 b] 39 (0, 0)), .inl (.cells #[.string s] 9 (0, 0))]) (by kernel_rfl) (by kernel_rfl) (by kernel_rfl) rfl (by first | exact lay_in w [] _ | exact lay_in w [_] _ | exact lay_in w [_, _] _ | exact lay_in w [_, _, _] _ | exact lay_in w [_, _, _, _] _) ?_
  repeat (first | (refine wpMP_quiet rfl (fun K hK => ?_); go_simp; first | (refine hK _ ?_; clear hK K) | (apply Exists.intro; refine ⟨fun _ => ?_, hK _ ?_⟩; (first | (go_at_call 110; exact bq (HS.out _) (fun d => lay_join _ _ _ d)) | (go_at_call 110; exact bq (HS.out _) (fun d => ⟨d, rfl⟩))); clear hK K)) | (refine wpMP_special rfl (fun K hK d => ?_); go_simp; refine hK _ _ (by first | exact lay_in w [_] _ | exact lay_in w [_, _] _ | exact lay_in w [_, _, _] _ | exact lay_in w [_, _, _, _] _ | exact lay_in w [_, _, _, _, _] _ | exact lay_in w [_, _, _, _, _, _] _) ?_; clear hK K))
  refine wpMP_nil ?_
  intro d
  rw [lay_bw]
  go_wp2_with fail
  all_goals exact bodyPost_ret (v := .tuple #[(.agg #[.int .i64 (p), .int .i64 (q), .int .i64 (dcL xb), .int .i64 (dcH xb), .int .i64 (0), .int .i64 (0), .int .i64 (0), .int .i64 (0)]), .int .i64 0]) (by simp [results, Tryz.results30, go_sem]) rfl ⟨rfl, lay_ex _ _⟩
end Go.Proofs.YtnnmfdeeicpdlaaGreat
/- Regions that draw their order, by a schedule that may branch in two: where two operations that make memory are ready, each may come first. No program in sight. -/
namespace Go.Proofs.YtnnmfdeeicpdlaaGreat
open Go.RowKit

section
variable {P : Program} {md : Region.Mode} {κ : Type} {Cl : κ → World} {l : List Oper} {ops : Array Oper}

end
end Go.Proofs.YtnnmfdeeicpdlaaGreat
/- An append to a row of records, at a step of a region that draws its order. No function of the program. -/
namespace Go.Proofs.YtnnmfdeeicpdlaaGreat
open Go.RowKit
variable {α : Type} {R : RecT α}

end Go.Proofs.YtnnmfdeeicpdlaaGreat
/- Steps of a branching schedule: appends to a row of records. No function of the program. -/
namespace Go.Proofs.YtnnmfdeeicpdlaaGreat
open Go.RowKit
variable {α : Type} {R : RecT α}

theorem owG_empty' (R : RecT α) {w : World} {A B L : List (Obj ⊕ Ext)} : OwG R (Go.Proofs.YtnnmfdeeicpdlaaGreat.lay w (A ++ .inl (.cells #[] R.E (0, 0)) :: (B ++ L))) (Go.Proofs.YtnnmfdeeicpdlaaGreat.lay w L).heap.size (.slice (some ⟨posn w (shp (B ++ L)), 0, none⟩) 0 0) [] :=
  owG_on (A := A) (((owG_empty R (w := w) (L := B ++ L))).le (by rw [lay_appG]; exact (lay_extends _ B).size))
end Go.Proofs.YtnnmfdeeicpdlaaGreat
/- slices.Clone at rows of records: a row of the call's own that holds the same records. -/
namespace Go.Proofs.YtnnmfdeeicpdlaaGreat
open Go.RowKit

def ClnPost {α : Type} (R : RecT α) (w : World) (l : List α) (e : Ending) (w' : World) : Prop := ∃ v' d, e = .returned v' ∧ w' = bw w d ∧ OwG R (bw w d) w.heap.size v' l
set_option maxHeartbeats 1000000 in
set_option maxRecDepth 100000 in
theorem cln_Star (v : Value) (l : List StarV) (w : World) (hv : SlG stR w v l) (hn : l.length ≤ 1000000000) :
    Calls Tryz.prog 68 #[v] w (ClnPost stR w l) := by
  unfold ClnPost
  by_cases hz : l = []
  · subst hz
    obtain ⟨a, c, rfl⟩ := hv.form
    cases a with
    | none =>
      refine lay_start ?_
      have qT : ∀ (w : World) (a : Option Addr) (n c : Nat), (binOp .eql 36 (.slice a n c) (.slice none 0 0)).run Tryz.prog w = .ok (.bool a.isNone) w := fun w a n c => Lib.run_eql_slice_nil w _ _ a n c 0 0 stOk.und
      go_enter Tryz.func68, Tryz.ntmps68
      go_wp2_with fail
      go_ret
      exact ⟨_, noExt _, rfl, (bw_noExt _).symm, OwG.nil _ _ _⟩
    | some a =>
      refine lay_start ?_
      have HV := Lib.hid (fun L => hv.lay L)
      have qT : ∀ (w : World) (a : Option Addr) (n c : Nat), (binOp .eql 36 (.slice a n c) (.slice none 0 0)).run Tryz.prog w = .ok (.bool a.isNone) w := fun w a n c => Lib.run_eql_slice_nil w _ _ a n c 0 0 stOk.und
      go_enter Tryz.func68, Tryz.ntmps68
      go_wp2_with (at_builtin; refine push_slG stOk rfl _ _ rfl (lay w []) _ _ _ (some a) 0 c [] (lay_belowG (A := [_]) (B := [])) (owG_empty' _ (A := []) (B := []) (L := [])) (HV.out _) (fun h => by cases h) rfl rfl (by simp) ?_; intro v' d' hv')
      obtain ⟨va, vc, hve⟩ := hv'.form
      have H' := Lib.hid hv'
      subst hve
      clear hv'
      go_wp2_with fail
      go_ret
      exact ⟨_, d', rfl, rfl, H'.out⟩
  · obtain ⟨b, o, cap, rfl, hc, hb, hr⟩ := hv.open (List.length_pos_iff.2 hz)
    have HV := Lib.hid (fun L => hv.lay L)
    have HN := Lib.hid hn
    clear hr hv hz
    refine lay_start ?_
    have qT : ∀ (w : World) (a : Option Addr) (n c : Nat), (binOp .eql 36 (.slice a n c) (.slice none 0 0)).run Tryz.prog w = .ok (.bool a.isNone) w := fun w a n c => Lib.run_eql_slice_nil w _ _ a n c 0 0 stOk.und
    go_enter Tryz.func68, Tryz.ntmps68
    go_wp2_with (at_builtin; refine push_slG stOk rfl _ _ rfl (lay w []) _ _ [] (some ⟨b, o, none⟩) l.length cap l (lay_belowG (A := [_]) (B := [])) (owG_empty' _ (A := []) (B := []) (L := [])) (HV.out _) (fun h => by cases h) rfl rfl (by simpa using HN.out) ?_; intro v' d' hv')
    obtain ⟨va, vc, hve⟩ := hv'.form
    have H' := Lib.hid hv'
    subst hve
    clear hv'
    go_wp2_with fail
    go_ret
    exact ⟨_, d', rfl, rfl, H'.out⟩
end Go.Proofs.YtnnmfdeeicpdlaaGreat

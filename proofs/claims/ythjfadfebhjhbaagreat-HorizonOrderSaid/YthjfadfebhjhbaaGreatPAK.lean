/- Contracts and plain laws, several texts in one: Alm3; Alm4; MixB; RowS -/
import Derived.Test.YthjfadfebhjhbaaGreatProg
import Derived.WalkKit
import Derived.WalkSpells
import Derived.WalkLawsBesides
import Derived.Lib.Hide
import Derived.BigQuiet
import Derived.Test.YthjfadfebhjhbaaGreatPAA
import Derived.Test.YthjfadfebhjhbaaGreatPAB
import Derived.Test.YthjfadfebhjhbaaGreatPAE
import Derived.Test.YthjfadfebhjhbaaGreatPAF
import Derived.Test.YthjfadfebhjhbaaGreatPAI
import Derived.Test.YthjfadfebhjhbaaGreatPAJ
/- almanac.star: where a star is over a time. -/
namespace Go.Proofs.YthjfadfebhjhbaaGreat
open Go.RowKit

theorem turn_bd {x y : Int} (h : x ≤ y) : 0 ≤ turnLo x y ∧ turnLo x y ≤ 21599999 ∧ turnLo x y ≤ turnHi x y ∧ turnHi x y ≤ turnLo x y + 21600000 := by
  unfold turnLo turnHi
  split <;> omega
theorem turn_valid {x y : Int} (h : x ≤ y) : validB (turnLo x y) (turnHi x y) = true := by
  have := turn_bd h
  rw [validB_iff]; omega
/-- Aries over a time. -/
def agL (a b : Int) : Int := turnLo (ariF a) (ariU b)
def agH (a b : Int) : Int := turnHi (ariF a) (ariU b)
theorem ag_bd {a b : Int} (h : a ≤ b) : 0 ≤ agL a b ∧ agL a b ≤ 21599999 ∧ agL a b ≤ agH a b ∧ agH a b ≤ agL a b + 21600000 := turn_bd (ariF_le h)
theorem ag_valid {a b : Int} (h : a ≤ b) : validB (agL a b) (agH a b) = true := turn_valid (ariF_le h)
/-- A star over a time. -/
def sgL (a b sha : Int) : Int := turnLo (agL a b + (100 * sha - 50)) (agH a b + (100 * sha + 50))
def sgH (a b sha : Int) : Int := turnHi (agL a b + (100 * sha - 50)) (agH a b + (100 * sha + 50))
def dcL (n : Int) : Int := mx (100 * n - 50) (-5400000)
def dcH (n : Int) : Int := mn (100 * n + 50) 5400000
set_option maxHeartbeats 1000000 in
set_option maxRecDepth 100000 in
theorem alm_star (s : ByteArray) (sha dec mag a b : Int) (w : World) (hv : timB a b = true) (h0 : 0 ≤ sha) (h1 : sha ≤ 215999) (d0 : -54000 ≤ dec) (d1 : dec ≤ 54000) :
    Calls Tryz.prog 103 #[.agg #[.string s, .int .i64 sha, .int .i64 dec, .int .i64 mag], (.agg #[.int .i64 (a), .int .i64 (b)])] w fun e w' =>
      e = .returned (.tuple #[(.agg #[.int .i64 (sgL a b sha), .int .i64 (sgH a b sha), .int .i64 (dcL dec), .int .i64 (dcH dec), .int .i64 (0), .int .i64 (0), .int .i64 (0), .int .i64 (0)]), .int .i64 0]) ∧ ∃ d, w' = bw w d := by
  obtain ⟨g1, g2, g3⟩ := timB_iff.1 hv
  have HI := Lib.hid (fun w => sid_Interval a b w hv)
  have HA := Lib.hid (fun w => alm_around sha w (by omega) (by omega))
  have HD := Lib.hid (fun w => alm_around dec w (by omega) (by omega))
  have b1 := ag_bd g1
  have HS := Lib.hid (fun w => angle_Add (agL a b) (agH a b) (100 * sha - 50) (100 * sha + 50) w (ag_valid g1) (validB_iff.2 (by omega)) (validB_iff.2 (by omega)))
  have HT := Lib.hid (fun w => angle_Turn (agL a b + (100 * sha - 50)) (agH a b + (100 * sha + 50)) w (validB_iff.2 (by omega)))
  unfold sgL sgH dcL dcH
  change Hid (∀ w, Calls Tryz.prog _ _ w fun e w' => e = .returned (.tuple #[(.agg #[.int .i64 (agL a b), .int .i64 (agH a b)]), .int .i64 0]) ∧ ∃ d, w' = bw w d) at HI
  generalize agL a b = x at *
  generalize agH a b = y at *
  generalize turnLo (x + (100 * sha - 50)) (y + (100 * sha + 50)) = p at *
  generalize turnHi (x + (100 * sha - 50)) (y + (100 * sha + 50)) = q at *
  clear g1 g2 g3 hv b1
  refine lay_start ?_
  go_enter Tryz.func103, Tryz.ntmps103
  go_wp2_with (first | (go_at_call 102; refine (HI.out _).mono ?_; rintro e w' ⟨rfl, dI, rfl⟩))
  refine region_mixC [(1, 0), (2, 0), (3, 0), (0, 1), (4, 0), (5, 0), (6, 0), (7, 0), (8, 1), (9, 0)] (lay w [.inr dI, .inl (.cells #[.int .i64 0, .int .i64 0, .int .i64 0, .int .i64 0, .int .i64 0, .int .i64 0, .int .i64 0, .int .i64 0] 76 (0, 0)), .inl (.cells #[.int .i64 a, .int .i64 b] 25 (0, 0)), .inl (.cells #[.string s, .int .i64 sha, .int .i64 dec, .int .i64 mag] 117 (0, 0))]) (by kernel_rfl) (by kernel_rfl) (by kernel_rfl) rfl (by first | exact lay_in w [] _ | exact lay_in w [_] _ | exact lay_in w [_, _] _ | exact lay_in w [_, _, _] _ | exact lay_in w [_, _, _, _] _) ?_
  repeat (first | (refine wpMP_quiet rfl (fun K hK => ?_); go_simp; first | (refine hK _ ?_; clear hK K) | (apply Exists.intro; refine ⟨fun _ => ?_, hK _ ?_⟩; (first | (go_at_call 143; exact bq (HA.out _) (fun d => ⟨d, rfl⟩)) | (go_at_call 143; exact bq (HA.out _) (fun d => lay_join _ _ _ d)) | (go_at_call 116; exact bq (HS.out _) (fun d => ⟨d, rfl⟩)) | (go_at_call 116; exact bq (HS.out _) (fun d => lay_join _ _ _ d))); clear hK K)) | (refine wpMP_special rfl (fun K hK d => ?_); go_simp; refine hK _ _ (by first | exact lay_in w [_] _ | exact lay_in w [_, _] _ | exact lay_in w [_, _, _] _ | exact lay_in w [_, _, _, _] _ | exact lay_in w [_, _, _, _, _] _ | exact lay_in w [_, _, _, _, _, _] _) ?_; clear hK K))
  refine wpMP_nil ?_
  intro d
  rw [lay_bw]
  go_wp2_with (first | (go_at_call 115; refine (HT.out _).mono ?_; rintro e w' ⟨rfl, d, rfl⟩) | (go_at_call 143; refine (HD.out _).mono ?_; rintro e w' ⟨rfl, d, rfl⟩))
  all_goals exact bodyPost_ret (v := .tuple #[(.agg #[.int .i64 (p), .int .i64 (q), .int .i64 (mx (100 * dec - 50) (-5400000)), .int .i64 (mn (100 * dec + 50) 5400000), .int .i64 (0), .int .i64 (0), .int .i64 (0), .int .i64 (0)]), .int .i64 0]) (by simp [results, Tryz.results103, go_sem]) rfl ⟨rfl, lay_ex _ _⟩
end Go.Proofs.YthjfadfebhjhbaaGreat
/- (*almanac.Book).Where for Aries and for stars. -/
namespace Go.Proofs.YthjfadfebhjhbaaGreat
open Go.RowKit

set_option maxHeartbeats 1000000 in
theorem alm_Where1 (x : StarV) (s : ByteArray) (b : Nat) (w : World) (hb : b < w.heap.size) (hc : w.cell? ⟨b, 0, none⟩ = some (.string s)) :
    Calls Tryz.prog 101 #[.agg #[.string x.s, .int .i64 x.sha, .int .i64 x.dec, .int .i64 x.mag], .pointer (some ⟨b, 0, none⟩)] w fun e w' => e = .returned (.bool (nmB x.s s)) ∧ ∃ d, w' = bw w d := by
  obtain ⟨xs, x1, x2, x3⟩ := x
  dsimp only
  refine lay_start ?_
  go_enter Tryz.func101, Tryz.ntmps101
  go_wp2
  go_ret
  exact ⟨rfl, lay_ex _ _⟩
def ariesS : ByteArray := ⟨#[65, 114, 105, 101, 115]⟩
theorem aries_list : ariesS.toList = [65, 114, 105, 101, 115] := by rw [ByteArray.toList_eq]; rfl
/-- A book in memory: its three slices. -/
structure Bk (w : World) (b : Nat) (vd vp vs : Value) : Prop where
  lt : b < w.heap.size
  c0 : w.cell? ⟨b, 0, none⟩ = some vd
  c1 : w.cell? ⟨b, 1, none⟩ = some vp
  c2 : w.cell? ⟨b, 2, none⟩ = some vs
theorem Bk.lay {w : World} {b : Nat} {vd vp vs : Value} (h : Bk w b vd vp vs) (L : List (Obj ⊕ Ext)) : Bk (lay w L) b vd vp vs :=
  ⟨Nat.lt_of_lt_of_le h.lt (lay_extends w L).size, (lay_old w L 0 b h.lt).trans h.c0, (lay_old w L 1 b h.lt).trans h.c1, (lay_old w L 2 b h.lt).trans h.c2⟩
set_option maxHeartbeats 1000000 in
theorem alm_Where_star (bk : Nat) (vd vp vs : Value) (l : List StarV) (i : Nat) (x : StarV) (s : ByteArray) (a b : Int) (w : World) (hB : Bk w bk vd vp vs) (hv : SlG stR w vs l)
    (hx : l[i]? = some x) (hi : fndS l s = (i : Int)) (hne : (s.toList == [65, 114, 105, 101, 115]) = false) (ht : timB a b = true) (hw : b - a < 86400000) (h0 : 0 ≤ x.sha) (h1 : x.sha ≤ 215999) (d0 : -54000 ≤ x.dec) (d1 : x.dec ≤ 54000) :
    Calls Tryz.prog 54 #[.pointer (some ⟨bk, 0, none⟩), .string s, (.agg #[.int .i64 (a), .int .i64 (b)])] w fun e w' =>
      e = .returned (.tuple #[(.agg #[.int .i64 (sgL a b x.sha), .int .i64 (sgH a b x.sha), .int .i64 (dcL x.dec), .int .i64 (dcH x.dec), .int .i64 (0), .int .i64 (0), .int .i64 (0), .int .i64 (0)]), .int .i64 0]) ∧ ∃ d, w' = bw w d := by
  obtain ⟨g1, g2, g3⟩ := timB_iff.1 ht
  have HV := Lib.hid (fun W => clock_Valid a b W)
  rw [ht] at HV
  have HS := Lib.hid (fun W => alm_star x.s x.sha x.dec x.mag a b W ht h0 h1 d0 d1)
  have eI : ∀ args w, (callFunc 101 args).run Tryz.prog w = .ok (.enter 101 args) w := enters_of Tryz.func101 (by kernel_rfl) rfl
  have HI := Lib.hid (fun L b' (hb : b' < (lay w L).heap.size) (hc : ∀ d, (lay w (.inr d :: L)).cell? ⟨b', 0, none⟩ = some (.string s)) => st_IndexFunc 101 [.pointer (some ⟨b', 0, none⟩)] (fun x => nmB x.s s) vs l (lay w L) (hv.lay L) eI (fun x _ d =>
    alm_Where1 x s b' (lay w (.inr d :: L)) (Nat.lt_of_lt_of_le hb (bw_le _ d)) (hc d) |>.mono fun e w' ⟨h1, d2, h2⟩ => ⟨h1, _, h2.trans (bw_bw _ _ _)⟩))
  change Hid (∀ L b' hb hc, Calls Tryz.prog _ _ _ (IdxPost (lay w L) (fndS l s))) at HI
  rw [hi] at HI
  have hil : i < l.length := (List.getElem?_eq_some_iff.1 hx).1
  obtain ⟨bs, os, cs, rfl, hcs, hbs, hr⟩ := hv.open (by omega)
  have r0 : w.cell? ⟨bs, os + i * 4, none⟩ = some (.string x.s) := hr i x hx 0 _ rfl
  have r1 : w.cell? ⟨bs, os + i * 4 + 1, none⟩ = some (.int .i64 x.sha) := hr i x hx 1 _ rfl
  have r2 : w.cell? ⟨bs, os + i * 4 + 2, none⟩ = some (.int .i64 x.dec) := hr i x hx 2 _ rfl
  have r3 : w.cell? ⟨bs, os + i * 4 + 3, none⟩ = some (.int .i64 x.mag) := hr i x hx 3 _ rfl
  obtain ⟨k0, k1, k2, k3⟩ := hB
  have z3 : decide ((86400000 : Int) ≤ wrap64 (b - a)) = false := decide_eq_false (by unfold wrap64; omega)
  have x0 : (0 : Int) ≤ (i : Int) := by omega
  have x1 : (i : Int) < (l.length : Int) := by omega
  generalize l.length = m at *
  generalize sgL a b x.sha = p at *
  generalize sgH a b x.sha = q at *
  clear hx hi hv ht g1 g2 g3 hr eI
  obtain ⟨xs, xa, xb, xc⟩ := x
  dsimp only at *
  refine lay_start ?_
  go_enter Tryz.func54, Tryz.ntmps54
  go_wp2_with (first | (go_at_call 32; refine (HV.out _).mono ?_; rintro e w' ⟨rfl, dV, rfl⟩))
  refine (HI.out _ _ (by simp only [lay_size, shp, posn, List.sum_cons, List.sum_nil]; omega) (fun d => by simp [go_sem])).mono ?_
  rintro e w' ⟨rfl, dJ, rfl⟩
  rw [lay_bw]
  have z1 : decide ((i : Int) < 0) = false := decide_eq_false (by omega)
  have z2 : decide ((0 : Int) ≤ (i : Int)) = true := decide_eq_true (by omega)
  go_wp2_with fail
  refine region_bw (by kernel_rfl) (by kernel_rfl) ?_
  repeat (go_big_quiet_step ((first | fail)))
  refine wpQuiet_nil ?_
  rintro w' ⟨dK, rfl⟩
  rw [lay_bw]
  go_wp2_with fail
  refine region_mixC [(0, 0), (1, 0), (2, 0), (3, 0), (4, 0), (5, 0), (6, 0), (7, 0), (8, 0), (9, 0), (10, 0), (11, 0), (12, 1), (13, 0)] (lay w [.inr dK, .inr dJ, .inr dV, .inl (.cells #[.int .i64 0, .int .i64 0, .int .i64 0, .int .i64 0, .int .i64 0, .int .i64 0, .int .i64 0, .int .i64 0] 76 (0, 0)), .inl (.cells #[.int .i64 a, .int .i64 b] 25 (0, 0)), .inl (.cells #[.string s] 9 (0, 0))]) (by kernel_rfl) (by kernel_rfl) (by kernel_rfl) rfl (by first | exact lay_in w [] _ | exact lay_in w [_] _ | exact lay_in w [_, _] _ | exact lay_in w [_, _, _] _ | exact lay_in w [_, _, _, _] _) ?_
  repeat (first | (refine wpMP_quiet rfl (fun K hK => ?_); go_simp; first | (refine hK _ ?_; clear hK K) | (apply Exists.intro; refine ⟨fun _ => ?_, hK _ ?_⟩; (first | (go_at_call 103; exact bq (HS.out _) (fun d => lay_join _ _ _ d)) | (go_at_call 103; exact bq (HS.out _) (fun d => ⟨d, rfl⟩))); clear hK K)) | (refine wpMP_special rfl (fun K hK d => ?_); go_simp; refine hK _ _ (by first | exact lay_in w [_] _ | exact lay_in w [_, _] _ | exact lay_in w [_, _, _] _ | exact lay_in w [_, _, _, _] _ | exact lay_in w [_, _, _, _, _] _ | exact lay_in w [_, _, _, _, _, _] _) ?_; clear hK K))
  refine wpMP_nil ?_
  intro d
  rw [lay_bw]
  go_wp2_with fail
  all_goals exact bodyPost_ret (v := .tuple #[(.agg #[.int .i64 (p), .int .i64 (q), .int .i64 (dcL xb), .int .i64 (dcH xb), .int .i64 (0), .int .i64 (0), .int .i64 (0), .int .i64 (0)]), .int .i64 0]) (by simp [results, Tryz.results54, go_sem]) rfl ⟨rfl, lay_ex _ _⟩
end Go.Proofs.YthjfadfebhjhbaaGreat
/- Regions that draw their order, by a schedule that may branch in two: where two operations that make memory are ready, each may come first. No program in sight. -/
namespace Go.Proofs.YthjfadfebhjhbaaGreat
open Go.RowKit

inductive Sch where
  | done : Sch
  | q : Nat → Sch → Sch
  | one : Nat → Sch → Sch
  | two : Nat → Sch → Nat → Sch → Sch
section
variable {P : Program} {md : Region.Mode} {κ : Type} {Cl : κ → World} {l : List Oper} {ops : Array Oper}

def spB (P : Program) (l : List Oper) (ops : Array Oper) (Cl : κ → World) (i : Nat) (X : Act → World → Prop) (a : Act) (w : World) : Prop :=
  ∃ o, l[i]? = some o ∧ ∀ d, (if Region.wanted o (yielded ops a.tmps) then sOp P o a (fun a' w' => (∃ k, w' = Cl k) ∧ X a' w') (bw w d) else (∃ k, bw w d = Cl k) ∧ X (a.put o.dst undef) (bw w d))
def wpMB (P : Program) (l : List Oper) (ops : Array Oper) (Cl : κ → World) (Q : Act → World → Prop) : Sch → Act → World → Prop
  | .done, a, w => ∀ d, Q a (bw w d)
  | .q i s, a, w => ∃ o, l[i]? = some o ∧ (if Region.wanted o (yielded ops a.tmps) then mOp P Cl o a (fun a' => wpMB P l ops Cl Q s a' w) else wpMB P l ops Cl Q s (a.put o.dst undef) w)
  | .one i s, a, w => spB P l ops Cl i (wpMB P l ops Cl Q s) a w
  | .two i s j t, a, w => spB P l ops Cl i (wpMB P l ops Cl Q s) a w ∧ spB P l ops Cl j (wpMB P l ops Cl Q t) a w
def lexMB (md : Region.Mode) (ops : Array Oper) (n g : Nat) : Nat → Sch → Array Bool → Bool
  | 0, .done, listed => Region.seqB md ops g n listed
  | f + 1, .q i s, listed => decide (i < n) && (Region.ready md ops listed).contains i && Region.free md ops listed i && lexMB md ops n g f s (listed.setIfInBounds i true)
  | f + 1, .one i s, listed => decide (i < n) && decide (Region.ready md ops listed = [i]) && lexMB md ops n g f s (listed.setIfInBounds i true)
  | f + 1, .two i s j t, listed => decide (i < n) && decide (j < n) && decide (Region.ready md ops listed = [i, j]) && lexMB md ops n g f s (listed.setIfInBounds i true) && lexMB md ops n g f t (listed.setIfInBounds j true)
  | _, _, _ => false

theorem mixT_of_wpMB {n g : Nat} {Lq : Act → World → Prop} (hCl : ∀ k d, ∃ k', bw (Cl k) d = Cl k') (hl : ∀ j : Nat, l[j]? = ops[j]?) (hsel : Region.noSelect ops = true) (hs : Region.sinkB md ops n = true) (hc : Region.chainB md ops n = true) (hn : n < ops.size) :
    ∀ (f : Nat) (s : Sch) (listed : Array Bool) (a : Act) (w : World), HeadInv md ops n listed → (∃ k, w = Cl k) → lexMB md ops n g f s listed = true →
    wpMB P l ops Cl Lq s a w → mixT P md ops Cl n (fun listed' a' w' => Region.seqB md ops g n listed' = true ∧ Lq a' w') f listed a w
  | 0, .done, listed, a, w, inv, hw, hB, h => fun d => ⟨hB, h d⟩
  | f + 1, .q k s, listed, a, w, inv, hw, hB, h => by
    simp only [lexMB, Bool.and_eq_true, decide_eq_true_eq] at hB
    obtain ⟨⟨⟨hkn, hr⟩, hf⟩, hB'⟩ := hB
    obtain ⟨o, ho, h⟩ := h
    have h0 : ops[k]? = some o := (hl k).symm.trans ho
    have hr' : k ∈ Region.ready md ops listed := by simpa using hr
    have hy : ∃ v, YieldsM P ops Cl o v a ∧ wpMB P l ops Cl Lq s (a.put o.dst v) w := by
      by_cases hw1 : Region.wanted o (yielded ops a.tmps) = true
      · rw [if_pos hw1] at h
        obtain ⟨v, h1, h2⟩ := h
        exact ⟨v, .inl ⟨hw1, h1⟩, h2⟩
      · rw [if_neg hw1] at h
        exact ⟨undef, .inr ⟨by simpa using hw1, rfl⟩, h⟩
    obtain ⟨v, hy, hK⟩ := hy
    exact mixT_first hCl h0 (Region.noSelect_spec hsel) hs hc hn hkn (fun _ _ _ hL => seqB_ready hL.1) f listed a w hw inv (Region.free_spec h0 hf) hr' hy
      (mixT_of_wpMB hCl hl hsel hs hc hn f s _ _ w (inv.set hr' hkn) hw hB' hK)
  | f + 1, .one k s, listed, a, w, inv, hw, hB, h => by
    simp only [lexMB, Bool.and_eq_true, decide_eq_true_eq] at hB
    obtain ⟨⟨hkn, hr⟩, hB'⟩ := hB
    obtain ⟨o, ho, h⟩ := h
    have h0 : ops[k]? = some o := (hl k).symm.trans ho
    have inv' := inv.set (i := k) (by rw [hr]; simp) hkn
    refine ⟨by rw [hr]; simp, fun i hi => ?_⟩
    rw [hr] at hi
    obtain rfl : i = k := by simpa using hi
    refine ⟨hkn, fun d => ?_⟩
    have hd := h d
    rw [oneOp_some h0]
    split
    · rename_i hw1; rw [if_pos hw1] at hd
      exact sOp_mono (fun a' w' hk' => ⟨hk'.1, mixT_of_wpMB hCl hl hsel hs hc hn f s _ _ w' inv' hk'.1 hB' hk'.2⟩) hd
    · rename_i hw1; rw [if_neg hw1] at hd
      exact ⟨hd.1, mixT_of_wpMB hCl hl hsel hs hc hn f s _ _ _ inv' hd.1 hB' hd.2⟩
  | f + 1, .two k s j t, listed, a, w, inv, hw, hB, h => by
    simp only [lexMB, Bool.and_eq_true, decide_eq_true_eq] at hB
    obtain ⟨⟨⟨⟨hkn, hjn⟩, hr⟩, hB1⟩, hB2⟩ := hB
    obtain ⟨⟨o1, ho1, h1⟩, o2, ho2, h2⟩ := h
    have e1 : ops[k]? = some o1 := (hl k).symm.trans ho1
    have e2 : ops[j]? = some o2 := (hl j).symm.trans ho2
    have inv1 := inv.set (i := k) (by rw [hr]; simp) hkn
    have inv2 := inv.set (i := j) (by rw [hr]; simp) hjn
    refine ⟨by rw [hr]; simp, fun i hi => ?_⟩
    rw [hr] at hi
    have hi' : i = k ∨ i = j := by simpa using hi
    rcases hi' with rfl | rfl
    · refine ⟨hkn, fun d => ?_⟩
      have hd := h1 d
      rw [oneOp_some e1]
      split
      · rename_i hw1; rw [if_pos hw1] at hd
        exact sOp_mono (fun a' w' hk' => ⟨hk'.1, mixT_of_wpMB hCl hl hsel hs hc hn f s _ _ w' inv1 hk'.1 hB1 hk'.2⟩) hd
      · rename_i hw1; rw [if_neg hw1] at hd
        exact ⟨hd.1, mixT_of_wpMB hCl hl hsel hs hc hn f s _ _ _ inv1 hd.1 hB1 hd.2⟩
    · refine ⟨hjn, fun d => ?_⟩
      have hd := h2 d
      rw [oneOp_some e2]
      split
      · rename_i hw1; rw [if_pos hw1] at hd
        exact sOp_mono (fun a' w' hk' => ⟨hk'.1, mixT_of_wpMB hCl hl hsel hs hc hn f t _ _ w' inv2 hk'.1 hB2 hk'.2⟩) hd
      · rename_i hw1; rw [if_neg hw1] at hd
        exact ⟨hd.1, mixT_of_wpMB hCl hl hsel hs hc hn f t _ _ _ inv2 hd.1 hB2 hd.2⟩
  | 0, .q _ _, _, _, _, _, _, hB, _ => by simp [lexMB] at hB
  | 0, .one _ _, _, _, _, _, _, hB, _ => by simp [lexMB] at hB
  | 0, .two _ _ _ _, _, _, _, _, _, hB, _ => by simp [lexMB] at hB
  | _ + 1, .done, _, _, _, _, _, hB, _ => by simp [lexMB] at hB

theorem region_mixB {id : Nat} {Q : Exit → Act → World → Prop} {a : Act} {w : World} {l : List Oper} (n : Nat) (s : Sch) (hm : P.follows .mixedOrders = true) (hsel : Region.noSelect l.toArray = true)
    (hs : Region.sinkB .any l.toArray n = true) (hc : Region.chainB .any l.toArray n = true) (hn : n < l.toArray.size)
    (hB : lexMB .any l.toArray n (l.toArray.size - n) n s (Array.replicate l.toArray.size false) = true)
    (h : wpMB P l l.toArray (fun d => bw w d) (fun a w => wpList P l.toArray Q (l.drop n) a w) s a w) : (Code.region id l.toArray true).wp P Q a w := by
  have hdl : (l.drop n).length = l.toArray.size - n := by simp
  have inv0 : HeadInv .any l.toArray n (Array.replicate l.toArray.size false) :=
    ⟨by simp, fun j oj _ hl => (by rw [getD_replicate_false] at hl; cases hl), fun t _ ht => getD_in (by simpa using ht) (getD_replicate_false _ _)⟩
  have H := mixT_of_wpMB (md := .any) (g := l.toArray.size - n) (fun k d => ⟨_, bw_bw w k d⟩) (fun j => by simp) hsel hs hc hn n s _ a w inv0 ⟨noExt w, (bw_noExt w).symm⟩ hB h
  refine wp_region_any hm ?_
  have := mixT_ext (⟨#[], w.drawn + 1⟩ : Ext) H
  rw [← bw_drewExt] at this
  have := mixT_sound (Q' := Q) (g := l.toArray.size - n) (fun listed a' w' hL => by
    have := wpAny_of_seq (md := .any) (Q' := Q) (l.drop n) n listed a' w' (fun j => by simp [List.getElem?_drop]) (by rw [hdl]; exact hL.1) hL.2
    rwa [hdl] at this) _ _ _ _ this
  rw [show n + (l.toArray.size - n) = l.toArray.size by omega] at this
  exact this
theorem wpMB_quiet {Q : Act → World → Prop} {a : Act} {w : World} {i : Nat} {o : Oper} {s : Sch} (ho : l[i]? = some o)
    (h : ∀ K : Act → Prop, (∀ a, wpMB P l ops Cl Q s a w → K a) → if Region.wanted o (yielded ops a.tmps) then mOp P Cl o a K else K (a.put o.dst undef)) : wpMB P l ops Cl Q (.q i s) a w :=
  ⟨o, ho, h _ (fun _ h => h)⟩
theorem spB_of {X : Act → World → Prop} {a : Act} {w : World} {i : Nat} {o : Oper} (ho : l[i]? = some o)
    (h : ∀ (K : Act → World → Prop), (∀ a' w', (∃ k, w' = Cl k) → X a' w' → K a' w') → ∀ d, if Region.wanted o (yielded ops a.tmps) then sOp P o a K (bw w d) else K (a.put o.dst undef) (bw w d)) : spB P l ops Cl i X a w :=
  ⟨o, ho, fun d => by
    have := h (fun a' w' => (∃ k, w' = Cl k) ∧ X a' w') (fun _ _ h1 h2 => ⟨h1, h2⟩) d
    split
    · rename_i hw; rw [if_pos hw] at this; exact this
    · rename_i hw; rw [if_neg hw] at this; exact this⟩
theorem wpMB_one {Q : Act → World → Prop} {a : Act} {w : World} {i : Nat} {s : Sch} (h : spB P l ops Cl i (wpMB P l ops Cl Q s) a w) : wpMB P l ops Cl Q (.one i s) a w := h
theorem wpMB_done {Q : Act → World → Prop} {a : Act} {w : World} (h : ∀ d, Q a (bw w d)) : wpMB P l ops Cl Q .done a w := h
end
end Go.Proofs.YthjfadfebhjhbaaGreat
/- An append to a row of records, at a step of a region that draws its order. No function of the program. -/
namespace Go.Proofs.YthjfadfebhjhbaaGreat
open Go.RowKit
variable {α : Type} {R : RecT α}

end Go.Proofs.YthjfadfebhjhbaaGreat

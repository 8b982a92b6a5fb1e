/- Contracts and plain laws, several texts in one: Alm2; Alm3; Alm4; Alm5 -/
import Derived.Test.YtkhhdpndcidmgaaGreatProg
import Derived.WalkKit
import Derived.WalkSpells
import Derived.WalkLawsBesides
import Derived.Lib.Hide
import Derived.BigQuiet
import Derived.Test.YtkhhdpndcidmgaaGreatTAE
import Derived.Test.YtkhhdpndcidmgaaGreatTAF
import Derived.Test.YtkhhdpndcidmgaaGreatTAG
import Derived.Test.YtkhhdpndcidmgaaGreatTAI
import Derived.Test.YtkhhdpndcidmgaaGreatTAJ
import Derived.Test.YtkhhdpndcidmgaaGreatTAU
import Derived.Test.YtkhhdpndcidmgaaGreatTAY
/- Sums of arcs (package angle). -/
namespace Go.Proofs.YtkhhdpndcidmgaaGreat
set_option maxHeartbeats 400000
open Go.RowKit

theorem angle_result (lo hi : Int) (w : World) (hv : validB lo hi = true) :
    Calls Tryz.prog 104 #[.int .i64 lo, .int .i64 hi] w fun e w' => e = .returned (.tuple #[(.agg #[.int .i64 (lo), .int .i64 (hi)]), .int .i64 0]) ∧ ∃ d, w' = bw w d := by
  refine lay_start ?_
  obtain ⟨g1, g2, g3⟩ := validB_iff.1 hv
  have q1 : fitsB lo = true := by simp [fitsB]; omega
  have q2 : fitsB hi = true := by simp [fitsB]; omega
  have c1 := fun w => angle_fits lo w
  have c2 := fun w => angle_fits hi w
  rw [q1] at c1
  rw [q2] at c2
  go_enter Tryz.func104, Tryz.ntmps104
  go_wp2_with (go_at_call 74; first | (with_reducible refine (c1 _).mono ?_; rintro e w' ⟨rfl, rfl⟩) | (with_reducible refine (c2 _).mono ?_; rintro e w' ⟨rfl, rfl⟩))
  all_goals exact bodyPost_ret (v := .tuple #[(.agg #[.int .i64 (lo), .int .i64 (hi)]), .int .i64 0]) (by simp [results, Tryz.results104, go_sem]) rfl ⟨rfl, lay_ex _ _⟩
theorem angle_Add (a b x y : Int) (w : World) (h1 : validB a b = true) (h2 : validB x y = true) (h3 : validB (a + x) (b + y) = true) :
    Calls Tryz.prog 65 #[(.agg #[.int .i64 (a), .int .i64 (b)]), (.agg #[.int .i64 (x), .int .i64 (y)])] w fun e w' => e = .returned (.tuple #[(.agg #[.int .i64 (a + x), .int .i64 (b + y)]), .int .i64 0]) ∧ ∃ d, w' = bw w d := by
  refine lay_start ?_
  obtain ⟨g1, g2, g3⟩ := validB_iff.1 h1
  obtain ⟨k1, k2, k3⟩ := validB_iff.1 h2
  have c1 := fun w => angle_Valid a b w
  rw [h1] at c1
  have c2 := fun w => angle_Valid x y w
  rw [h2] at c2
  have c3 := fun w => angle_result (a + x) (b + y) w h3
  have f1 : wrap64 (a + x) = a + x := by unfold wrap64; omega
  have f2 : wrap64 (b + y) = b + y := by unfold wrap64; omega
  go_enter Tryz.func65, Tryz.ntmps65
  go_wp2_with (first | (go_at_call 32; first | (with_reducible refine (c1 _).mono ?_; rintro e w' ⟨rfl, d, rfl⟩) | (with_reducible refine (c2 _).mono ?_; rintro e w' ⟨rfl, d, rfl⟩)) | (go_at_call 104; refine (c3 _).mono ?_; rintro e w' ⟨rfl, d, rfl⟩))
  all_goals exact bodyPost_ret (v := .tuple #[(.agg #[.int .i64 (a + x), .int .i64 (b + y)]), .int .i64 0]) (by simp [results, Tryz.results65, go_sem]) rfl ⟨rfl, lay_ex _ _⟩
theorem angle_Neg (a b : Int) (w : World) (h1 : validB a b = true) :
    Calls Tryz.prog 105 #[(.agg #[.int .i64 (a), .int .i64 (b)])] w fun e w' => e = .returned (.tuple #[(.agg #[.int .i64 (-b), .int .i64 (-a)]), .int .i64 0]) ∧ ∃ d, w' = bw w d := by
  refine lay_start ?_
  obtain ⟨g1, g2, g3⟩ := validB_iff.1 h1
  have c1 := fun w => angle_Valid a b w
  rw [h1] at c1
  have c3 := fun w => angle_result (-b) (-a) w (validB_iff.2 ⟨by omega, by omega, by omega⟩)
  go_enter Tryz.func105, Tryz.ntmps105
  go_wp2_with (first | (go_at_call 32; refine (c1 _).mono ?_; rintro e w' ⟨rfl, d, rfl⟩) | (go_at_call 104; refine (c3 _).mono ?_; rintro e w' ⟨rfl, d, rfl⟩))
  all_goals exact bodyPost_ret (v := .tuple #[(.agg #[.int .i64 (-b), .int .i64 (-a)]), .int .i64 0]) (by simp [results, Tryz.results105, go_sem]) rfl ⟨rfl, lay_ex _ _⟩
theorem angle_Sub (a b x y : Int) (w : World) (h1 : validB a b = true) (h2 : validB x y = true) (h3 : validB (a + -y) (b + -x) = true) :
    Calls Tryz.prog 67 #[(.agg #[.int .i64 (a), .int .i64 (b)]), (.agg #[.int .i64 (x), .int .i64 (y)])] w fun e w' => e = .returned (.tuple #[(.agg #[.int .i64 (a + -y), .int .i64 (b + -x)]), .int .i64 0]) ∧ ∃ d, w' = bw w d := by
  refine lay_start ?_
  obtain ⟨k1, k2, k3⟩ := validB_iff.1 h2
  have c1 := fun w => angle_Neg x y w h2
  have c3 := fun w => angle_Add a b (-y) (-x) w h1 (validB_iff.2 ⟨by omega, by omega, by omega⟩) h3
  go_enter Tryz.func67, Tryz.ntmps67
  go_wp2_with (first | (go_at_call 105; refine (c1 _).mono ?_; rintro e w' ⟨rfl, d, rfl⟩) | (go_at_call 65; refine (c3 _).mono ?_; rintro e w' ⟨rfl, d, rfl⟩))
  all_goals exact bodyPost_ret (v := .tuple #[(.agg #[.int .i64 (a + -y), .int .i64 (b + -x)]), .int .i64 0]) (by simp [results, Tryz.results67, go_sem]) rfl ⟨rfl, lay_ex _ _⟩
end Go.Proofs.YtkhhdpndcidmgaaGreat
/- almanac.star: where a star is over a time. -/
namespace Go.Proofs.YtkhhdpndcidmgaaGreat
open Go.RowKit

theorem turn_bd {x y : Int} (h : x ≤ y) : 0 ≤ turnLo x y ∧ turnLo x y ≤ 21599999 ∧ turnLo x y ≤ turnHi x y ∧ turnHi x y ≤ turnLo x y + 21600000 := by
  unfold turnLo turnHi
  split <;> omega
theorem turn_valid {x y : Int} (h : x ≤ y) : validB (turnLo x y) (turnHi x y) = true := by
  have := turn_bd h
  rw [validB_iff]; omega
def agL (a b : Int) : Int := turnLo (ariF a) (ariU b)
def agH (a b : Int) : Int := turnHi (ariF a) (ariU b)
theorem ag_bd {a b : Int} (h : a ≤ b) : 0 ≤ agL a b ∧ agL a b ≤ 21599999 ∧ agL a b ≤ agH a b ∧ agH a b ≤ agL a b + 21600000 := turn_bd (ariF_le h)
theorem ag_valid {a b : Int} (h : a ≤ b) : validB (agL a b) (agH a b) = true := turn_valid (ariF_le h)
def sgL (a b sha : Int) : Int := turnLo (agL a b + (100 * sha - 50)) (agH a b + (100 * sha + 50))
def sgH (a b sha : Int) : Int := turnHi (agL a b + (100 * sha - 50)) (agH a b + (100 * sha + 50))
def dcL (n : Int) : Int := mx (100 * n - 50) (-5400000)
def dcH (n : Int) : Int := mn (100 * n + 50) 5400000
set_option maxHeartbeats 1000000 in
set_option maxRecDepth 100000 in
theorem alm_star (s : ByteArray) (sha dec mag a b : Int) (w : World) (hv : timB a b = true) (h0 : 0 ≤ sha) (h1 : sha ≤ 215999) (d0 : -54000 ≤ dec) (d1 : dec ≤ 54000) :
    Calls Tryz.prog 63 #[.agg #[.string s, .int .i64 sha, .int .i64 dec, .int .i64 mag], (.agg #[.int .i64 (a), .int .i64 (b)])] w fun e w' =>
      e = .returned (.tuple #[(.agg #[.int .i64 (sgL a b sha), .int .i64 (sgH a b sha), .int .i64 (dcL dec), .int .i64 (dcH dec), .int .i64 (0), .int .i64 (0), .int .i64 (0), .int .i64 (0)]), .int .i64 0]) ∧ ∃ d, w' = bw w d := by
  obtain ⟨g1, g2, g3⟩ := timB_iff.1 hv
  have HI := Lib.hid (fun w => sid_Interval a b w hv)
  have HA := Lib.hid (fun w => alm_around sha w (by omega) (by omega))
  have HD := Lib.hid (fun w => alm_around dec w (by omega) (by omega))
  have b1 := ag_bd g1
  have HS := Lib.hid (fun w => angle_Add (agL a b) (agH a b) (100 * sha - 50) (100 * sha + 50) w (ag_valid g1) (validB_iff.2 (by omega)) (validB_iff.2 (by omega)))
  have HT := Lib.hid (fun w => angle_Turn (agL a b + (100 * sha - 50)) (agH a b + (100 * sha + 50)) w (validB_iff.2 (by omega)))
  unfold sgL sgH dcL dcH
  change Hid (∀ w, Calls Tryz.prog _ _ w fun e w' => e = .returned (.tuple #[(.agg #[.int .i64 (agL a b), .int .i64 (agH a b)]), .int .i64 0]) ∧ ∃ d, w' = bw w d) at HI
  generalize agL a b = x at *
  generalize agH a b = y at *
  generalize turnLo (x + (100 * sha - 50)) (y + (100 * sha + 50)) = p at *
  generalize turnHi (x + (100 * sha - 50)) (y + (100 * sha + 50)) = q at *
  clear g1 g2 g3 hv b1
  refine lay_start ?_
  go_enter Tryz.func63, Tryz.ntmps63
  go_wp2_with (first | (go_at_call 62; refine (HI.out _).mono ?_; rintro e w' ⟨rfl, dI, rfl⟩))
  refine region_mixC [(1, 0), (2, 0), (3, 0), (0, 1), (4, 0), (5, 0), (6, 0), (7, 0), (8, 1), (9, 0)] (lay w [.inr dI, .inl (.cells #[.int .i64 0, .int .i64 0, .int .i64 0, .int .i64 0, .int .i64 0, .int .i64 0, .int .i64 0, .int .i64 0] 53 (0, 0)), .inl (.cells #[.int .i64 a, .int .i64 b] 43 (0, 0)), .inl (.cells #[.string s, .int .i64 sha, .int .i64 dec, .int .i64 mag] 42 (0, 0))]) (by kernel_rfl) (by kernel_rfl) (by kernel_rfl) rfl (by first | exact lay_in w [] _ | exact lay_in w [_] _ | exact lay_in w [_, _] _ | exact lay_in w [_, _, _] _ | exact lay_in w [_, _, _, _] _) ?_
  repeat (first | (refine wpMP_quiet rfl (fun K hK => ?_); go_simp; first | (refine hK _ ?_; clear hK K) | (apply Exists.intro; refine ⟨fun _ => ?_, hK _ ?_⟩; (first | (go_at_call 99; exact bq (HA.out _) (fun d => ⟨d, rfl⟩)) | (go_at_call 99; exact bq (HA.out _) (fun d => lay_join _ _ _ d)) | (go_at_call 65; exact bq (HS.out _) (fun d => ⟨d, rfl⟩)) | (go_at_call 65; exact bq (HS.out _) (fun d => lay_join _ _ _ d))); clear hK K)) | (refine wpMP_special rfl (fun K hK d => ?_); go_simp; refine hK _ _ (by first | exact lay_in w [_] _ | exact lay_in w [_, _] _ | exact lay_in w [_, _, _] _ | exact lay_in w [_, _, _, _] _ | exact lay_in w [_, _, _, _, _] _ | exact lay_in w [_, _, _, _, _, _] _) ?_; clear hK K))
  refine wpMP_nil ?_
  intro d
  rw [lay_bw]
  go_wp2_with (first | (go_at_call 8; refine (HT.out _).mono ?_; rintro e w' ⟨rfl, d, rfl⟩) | (go_at_call 99; refine (HD.out _).mono ?_; rintro e w' ⟨rfl, d, rfl⟩))
  all_goals exact bodyPost_ret (v := .tuple #[(.agg #[.int .i64 (p), .int .i64 (q), .int .i64 (mx (100 * dec - 50) (-5400000)), .int .i64 (mn (100 * dec + 50) 5400000), .int .i64 (0), .int .i64 (0), .int .i64 (0), .int .i64 (0)]), .int .i64 0]) (by simp [results, Tryz.results63, go_sem]) rfl ⟨rfl, lay_ex _ _⟩
end Go.Proofs.YtkhhdpndcidmgaaGreat
/- (*almanac.Book).Where for Aries and for stars. -/
namespace Go.Proofs.YtkhhdpndcidmgaaGreat
set_option maxHeartbeats 1000000
open Go.RowKit

theorem alm_Where1 (x : StarV) (s : ByteArray) (b : Nat) (w : World) (hb : b < w.heap.size) (hc : w.cell? ⟨b, 0, none⟩ = some (.string s)) :
    Calls Tryz.prog 61 #[.agg #[.string x.s, .int .i64 x.sha, .int .i64 x.dec, .int .i64 x.mag], .pointer (some ⟨b, 0, none⟩)] w fun e w' => e = .returned (.bool (nmB x.s s)) ∧ ∃ d, w' = bw w d := by
  obtain ⟨xs, x1, x2, x3⟩ := x
  dsimp only
  refine lay_start ?_
  go_enter Tryz.func61, Tryz.ntmps61
  go_wp2
  go_ret
  exact ⟨rfl, lay_ex _ _⟩
def ariesS : ByteArray := ⟨#[65, 114, 105, 101, 115]⟩
theorem aries_list : ariesS.toList = [65, 114, 105, 101, 115] := by rw [ByteArray.toList_eq]; rfl
structure Bk (w : World) (b : Nat) (vd vp vs : Value) : Prop where
  lt : b < w.heap.size
  c0 : w.cell? ⟨b, 0, none⟩ = some vd
  c1 : w.cell? ⟨b, 1, none⟩ = some vp
  c2 : w.cell? ⟨b, 2, none⟩ = some vs
theorem Bk.lay {w : World} {b : Nat} {vd vp vs : Value} (h : Bk w b vd vp vs) (L : List (Obj ⊕ Ext)) : Bk (lay w L) b vd vp vs :=
  ⟨Nat.lt_of_lt_of_le h.lt (lay_extends w L).size, (lay_old w L 0 b h.lt).trans h.c0, (lay_old w L 1 b h.lt).trans h.c1, (lay_old w L 2 b h.lt).trans h.c2⟩
theorem alm_Where_star (bk : Nat) (vd vp vs : Value) (l : List StarV) (i : Nat) (x : StarV) (s : ByteArray) (a b : Int) (w : World) (hB : Bk w bk vd vp vs) (hv : SlG stR w vs l)
    (hx : l[i]? = some x) (hi : fndS l s = (i : Int)) (hne : (s.toList == [65, 114, 105, 101, 115]) = false) (ht : timB a b = true) (hw : b - a < 86400000) (h0 : 0 ≤ x.sha) (h1 : x.sha ≤ 215999) (d0 : -54000 ≤ x.dec) (d1 : x.dec ≤ 54000) :
    Calls Tryz.prog 18 #[.pointer (some ⟨bk, 0, none⟩), .string s, (.agg #[.int .i64 (a), .int .i64 (b)])] w fun e w' =>
      e = .returned (.tuple #[(.agg #[.int .i64 (sgL a b x.sha), .int .i64 (sgH a b x.sha), .int .i64 (dcL x.dec), .int .i64 (dcH x.dec), .int .i64 (0), .int .i64 (0), .int .i64 (0), .int .i64 (0)]), .int .i64 0]) ∧ ∃ d, w' = bw w d := by
  obtain ⟨g1, g2, g3⟩ := timB_iff.1 ht
  have HV := Lib.hid (fun W => clock_Valid a b W)
  rw [ht] at HV
  have HS := Lib.hid (fun W => alm_star x.s x.sha x.dec x.mag a b W ht h0 h1 d0 d1)
  have eI : ∀ args w, (callFunc 61 args).run Tryz.prog w = .ok (.enter 61 args) w := enters_of Tryz.func61 (by kernel_rfl) rfl
  have HI := Lib.hid (fun L b' (hb : b' < (lay w L).heap.size) (hc : ∀ d, (lay w (.inr d :: L)).cell? ⟨b', 0, none⟩ = some (.string s)) => st_IndexFunc 61 [.pointer (some ⟨b', 0, none⟩)] (fun x => nmB x.s s) vs l (lay w L) (hv.lay L) eI (fun x _ d =>
    alm_Where1 x s b' (lay w (.inr d :: L)) (Nat.lt_of_lt_of_le hb (bw_le _ d)) (hc d) |>.mono fun e w' ⟨h1, d2, h2⟩ => ⟨h1, _, h2.trans (bw_bw _ _ _)⟩))
  change Hid (∀ L b' hb hc, Calls Tryz.prog _ _ _ (IdxPost (lay w L) (fndS l s))) at HI
  rw [hi] at HI
  have hil : i < l.length := (List.getElem?_eq_some_iff.1 hx).1
  obtain ⟨bs, os, cs, rfl, hcs, hbs, hr⟩ := hv.open (by omega)
  have r0 : w.cell? ⟨bs, os + i * 4, none⟩ = some (.string x.s) := hr i x hx 0 _ rfl
  have r1 : w.cell? ⟨bs, os + i * 4 + 1, none⟩ = some (.int .i64 x.sha) := hr i x hx 1 _ rfl
  have r2 : w.cell? ⟨bs, os + i * 4 + 2, none⟩ = some (.int .i64 x.dec) := hr i x hx 2 _ rfl
  have r3 : w.cell? ⟨bs, os + i * 4 + 3, none⟩ = some (.int .i64 x.mag) := hr i x hx 3 _ rfl
  obtain ⟨k0, k1, k2, k3⟩ := hB
  have z3 : decide ((86400000 : Int) ≤ wrap64 (b - a)) = false := decide_eq_false (by unfold wrap64; omega)
  have x0 : (0 : Int) ≤ (i : Int) := by omega
  have x1 : (i : Int) < (l.length : Int) := by omega
  generalize l.length = m at *
  generalize sgL a b x.sha = p at *
  generalize sgH a b x.sha = q at *
  clear hx hi hv ht g1 g2 g3 hr eI
  obtain ⟨xs, xa, xb, xc⟩ := x
  dsimp only at *
  refine lay_start ?_
  go_enter Tryz.func18, Tryz.ntmps18
  go_wp2_with (first | (go_at_call 59; refine (HV.out _).mono ?_; rintro e w' ⟨rfl, dV, rfl⟩))
  refine (HI.out _ _ (by simp only [lay_size, shp, posn, List.sum_cons, List.sum_nil]; omega) (fun d => by simp [go_sem])).mono ?_
  rintro e w' ⟨rfl, dJ, rfl⟩
  rw [lay_bw]
  have z1 : decide ((i : Int) < 0) = false := decide_eq_false (by omega)
  have z2 : decide ((0 : Int) ≤ (i : Int)) = true := decide_eq_true (by omega)
  go_wp2_with fail
  refine region_bw (by kernel_rfl) (by kernel_rfl) ?_
  repeat (go_big_quiet_step ((first | fail)))
  refine wpQuiet_nil ?_
  rintro w' ⟨dK, rfl⟩
  rw [lay_bw]
  go_wp2_with fail
  refine region_mixC [(0, 0), (1, 0), (2, 0), (3, 0), (4, 0), (5, 0), (6, 0), (7, 0), (8, 0), (9, 0), (10, 0), (11, 0), (12, 1), (13, 0)] (lay w [.inr dK, .inr dJ, .inr dV, .inl (.cells #[.int .i64 0, .int .i64 0, .int .i64 0, .int .i64 0, .int .i64 0, .int .i64 0, .int .i64 0, .int .i64 0] 53 (0, 0)), .inl (.cells #[.int .i64 a, .int .i64 b] 43 (0, 0)), .inl (.cells #[.string s] 9 (0, 0))]) (by kernel_rfl) (by kernel_rfl) (by kernel_rfl) rfl (by first | exact lay_in w [] _ | exact lay_in w [_] _ | exact lay_in w [_, _] _ | exact lay_in w [_, _, _] _ | exact lay_in w [_, _, _, _] _) ?_
  repeat (first | (refine wpMP_quiet rfl (fun K hK => ?_); go_simp; first | (refine hK _ ?_; clear hK K) | (apply Exists.intro; refine ⟨fun _ => ?_, hK _ ?_⟩; (first | (go_at_call 63; exact bq (HS.out _) (fun d => lay_join _ _ _ d)) | (go_at_call 63; exact bq (HS.out _) (fun d => ⟨d, rfl⟩))); clear hK K)) | (refine wpMP_special rfl (fun K hK d => ?_); go_simp; refine hK _ _ (by first | exact lay_in w [_] _ | exact lay_in w [_, _] _ | exact lay_in w [_, _, _] _ | exact lay_in w [_, _, _, _] _ | exact lay_in w [_, _, _, _, _] _ | exact lay_in w [_, _, _, _, _, _] _) ?_; clear hK K))
  refine wpMP_nil ?_
  intro d
  rw [lay_bw]
  go_wp2_with fail
  all_goals exact bodyPost_ret (v := .tuple #[(.agg #[.int .i64 (p), .int .i64 (q), .int .i64 (dcL xb), .int .i64 (dcH xb), .int .i64 (0), .int .i64 (0), .int .i64 (0), .int .i64 (0)]), .int .i64 0]) (by simp [results, Tryz.results18, go_sem]) rfl ⟨rfl, lay_ex _ _⟩
end Go.Proofs.YtkhhdpndcidmgaaGreat
/- (*almanac.Book).Where at Aries, and Aries. -/
namespace Go.Proofs.YtkhhdpndcidmgaaGreat
set_option maxHeartbeats 1000000
open Go.RowKit

theorem alm_Where_aries (bk : Nat) (vd vp vs : Value) (l : List StarV) (s : ByteArray) (a b : Int) (w : World) (hB : Bk w bk vd vp vs) (hv : SlG stR w vs l)
    (hne : (s.toList == [65, 114, 105, 101, 115]) = true) (ht : timB a b = true) (hw : b - a < 86400000) :
    Calls Tryz.prog 18 #[.pointer (some ⟨bk, 0, none⟩), .string s, (.agg #[.int .i64 (a), .int .i64 (b)])] w fun e w' =>
      e = .returned (.tuple #[(.agg #[.int .i64 (agL a b), .int .i64 (agH a b), .int .i64 (0), .int .i64 (0), .int .i64 (0), .int .i64 (0), .int .i64 (0), .int .i64 (0)]), .int .i64 0]) ∧ ∃ d, w' = bw w d := by
  obtain ⟨g1, g2, g3⟩ := timB_iff.1 ht
  have HV := Lib.hid (fun W => clock_Valid a b W)
  rw [ht] at HV
  have HS := Lib.hid (fun W => sid_Interval a b W ht)
  change Hid (∀ w, Calls Tryz.prog _ _ w fun e w' => e = .returned (.tuple #[(.agg #[.int .i64 (agL a b), .int .i64 (agH a b)]), .int .i64 0]) ∧ ∃ d, w' = bw w d) at HS
  have eI : ∀ args w, (callFunc 61 args).run Tryz.prog w = .ok (.enter 61 args) w := enters_of Tryz.func61 (by kernel_rfl) rfl
  have HI := Lib.hid (fun L b' (hb : b' < (lay w L).heap.size) (hc : ∀ d, (lay w (.inr d :: L)).cell? ⟨b', 0, none⟩ = some (.string s)) => st_IndexFunc 61 [.pointer (some ⟨b', 0, none⟩)] (fun x => nmB x.s s) vs l (lay w L) (hv.lay L) eI (fun x _ d =>
    alm_Where1 x s b' (lay w (.inr d :: L)) (Nat.lt_of_lt_of_le hb (bw_le _ d)) (hc d) |>.mono fun e w' ⟨h1, d2, h2⟩ => ⟨h1, _, h2.trans (bw_bw _ _ _)⟩))
  change Hid (∀ L b' hb hc, Calls Tryz.prog _ _ _ (IdxPost (lay w L) (fndS l s))) at HI
  obtain ⟨sa, sc, rfl⟩ := hv.form
  obtain ⟨k0, k1, k2, k3⟩ := hB
  have z3 : decide ((86400000 : Int) ≤ wrap64 (b - a)) = false := decide_eq_false (by unfold wrap64; omega)
  generalize l.length = m at *
  generalize fndS l s = i at *
  generalize agL a b = p at *
  generalize agH a b = q at *
  clear hv ht g1 g2 g3 eI
  refine lay_start ?_
  go_enter Tryz.func18, Tryz.ntmps18
  go_wp2_with (first | (go_at_call 59; refine (HV.out _).mono ?_; rintro e w' ⟨rfl, dV, rfl⟩))
  refine (HI.out _ _ (by simp only [lay_size, shp, posn, List.sum_cons, List.sum_nil]; omega) (fun d => by simp [go_sem])).mono ?_
  rintro e w' ⟨rfl, dJ, rfl⟩
  rw [lay_bw]
  go_wp2_with fail
  refine region_bw (by kernel_rfl) (by kernel_rfl) ?_
  repeat (go_big_quiet_step ((first | fail)))
  refine wpQuiet_nil ?_
  rintro w' ⟨dK, rfl⟩
  rw [lay_bw]
  go_wp2_with (first | (go_at_call 62; refine (HS.out _).mono ?_; rintro e w' ⟨rfl, dV, rfl⟩))
  all_goals exact bodyPost_ret (v := .tuple #[(.agg #[.int .i64 (p), .int .i64 (q), .int .i64 (0), .int .i64 (0), .int .i64 (0), .int .i64 (0), .int .i64 (0), .int .i64 (0)]), .int .i64 0]) (by simp [results, Tryz.results18, go_sem]) rfl ⟨rfl, lay_ex _ _⟩
theorem alm_Aries (bk : Nat) (vd vp vs : Value) (l : List StarV) (a b : Int) (w : World) (hB : Bk w bk vd vp vs) (hv : SlG stR w vs l)
    (ht : timB a b = true) (hw : b - a < 86400000) :
    Calls Tryz.prog 19 #[.pointer (some ⟨bk, 0, none⟩), (.agg #[.int .i64 (a), .int .i64 (b)])] w fun e w' =>
      e = .returned (.tuple #[(.agg #[.int .i64 (agL a b), .int .i64 (agH a b)]), .int .i64 0]) ∧ ∃ d, w' = bw w d := by
  have HW := Lib.hid (fun L => alm_Where_aries bk vd vp vs l ariesS a b (lay w L) (hB.lay L) (hv.lay L) (by rw [aries_list]; rfl) ht hw)
  generalize agL a b = p at *
  generalize agH a b = q at *
  clear hB hv ht hw
  refine lay_start ?_
  go_enter Tryz.func19, Tryz.ntmps19
  go_wp2_with (first | (go_at_call 18; refine (HW.out _).mono ?_; rintro e w' ⟨rfl, dV, rfl⟩))
  all_goals exact bodyPost_ret (v := .tuple #[(.agg #[.int .i64 (p), .int .i64 (q)]), .int .i64 0]) (by simp [results, Tryz.results19, go_sem]) rfl ⟨rfl, lay_ex _ _⟩
end Go.Proofs.YtkhhdpndcidmgaaGreat

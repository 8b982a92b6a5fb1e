/- Contracts and plain laws, several texts in one: Hz6; Hz7; Hz5 -/
import Derived.Test.YthjfadfebhjhbaaGreatProg
import Derived.WalkKit
import Derived.WalkSpells
import Derived.WalkLawsBesides
import Derived.Lib.Hide
import Derived.BigQuiet
import Derived.Test.YthjfadfebhjhbaaGreatPAA
import Derived.Test.YthjfadfebhjhbaaGreatPAB
import Derived.Test.YthjfadfebhjhbaaGreatPAK
import Derived.Test.YthjfadfebhjhbaaGreatPAY
import Derived.Test.YthjfadfebhjhbaaGreatPBM
/- The example of chapter 50: plain facts. -/
namespace Go.Proofs.YthjfadfebhjhbaaGreat
open Go.RowKit Go.Shelf

def vegH : StarV := ⟨vegaS, 0, 0, 1⟩
theorem vegH_cat : catB [vegH] = true := by
  refine catB_iff.2 ⟨by decide, fun i x hx => ?_⟩
  cases i with
  | zero =>
    simp only [List.getElem?_cons_zero, Option.some.injEq] at hx
    subst hx
    refine ⟨vega_name, by decide, ?_⟩
    show (if (vegaS.toList == vegaS.toList) then ((0 : Nat) : Int) else _) = _
    rw [if_pos (beq_self_eq_true _)]
  | succ i => simp at hx
theorem vegH_find : fndS [vegH] vegaS = ((0 : Nat) : Int) := by
  show (if (vegaS.toList == vegaS.toList) then ((0 : Nat) : Int) else _) = _
  rw [if_pos (beq_self_eq_true _)]
theorem vegH_first : [vegH].find? (fun x => nmB x.s vegaS) = some vegH := by
  have e : nmB vegH.s vegaS = true := by
    show (vegaS.toList == vegaS.toList) = true
    exact beq_self_eq_true _
  rw [List.find?_cons, e]
theorem vega_noA : isA vegaS = false := by unfold isA; rw [vega_list]; rfl
theorem vegH_new : newE [] [vegH] = 0 := by
  unfold newE
  have h1 : badP [] = false := rfl
  have h2 : twB [] [vegH] = false := by
    unfold twB
    rw [tkL_nil]
    show (false || ((isA vegaS || false) || false)) = false
    rw [vega_noA]
    rfl
  rw [if_neg (by simp), if_neg (by rw [h1, vegH_cat]; simp), if_neg (by intro h; exact h (fun i p q hi => by simp at hi)), if_neg (by rw [h2]; simp)]
theorem vegH_ok : NewOk [] [vegH] := newE_0 vegH_new
theorem vegH_sg : sgL 0 0 0 = 5998017 ∧ sgH 0 0 0 = 5998118 ∧ dcL 0 = -50 ∧ dcH 0 = 50 := by decide +kernel
theorem vegH_where : whR [] [vegH] vegaS 0 0 = (⟨5998017, 5998118, -50, 50, 0, 0, 0, 0⟩, 0) := by
  rw [whR_star (i := 0) (x := vegH) (by decide) (by decide) vega_noA vegH_find vegH_first]
  obtain ⟨e1, e2, e3, e4⟩ := vegH_sg
  show ((⟨sgL 0 0 0, sgH 0 0 0, dcL 0, dcH 0, 0, 0, 0, 0⟩ : GeoV), (0 : Int)) = _
  rw [e1, e2, e3, e4]
theorem vegH_lha {n l h : Int} (hv : validB n n = true) (e1 : turnLo (5998017 + turnLo n n) (5998118 + turnHi n n) = l) (e2 : turnHi (5998017 + turnLo n n) (5998118 + turnHi n n) = h) : lhaE [] [vegH] vegaS 0 0 n n = 0 ∧ lhaL [] [vegH] vegaS 0 0 n n = l ∧ lhaH [] [vegH] vegaS 0 0 n n = h := by
  have e : lhaE [] [vegH] vegaS 0 0 n n = 0 := lhaE_z.2 ⟨by decide, hv, by rw [vegH_where]⟩
  obtain ⟨f1, f2⟩ := lha_is e
  rw [vegH_where] at f1 f2
  exact ⟨e, f1.trans e1, f2.trans e2⟩
theorem vegH_up : abE [] [vegH] vegaS 0 0 0 0 (-5998017) (-5998017) = 0 ∧ abN [] [vegH] vegaS 0 0 0 0 (-5998017) (-5998017) = 1 := by
  obtain ⟨e, f, g⟩ := vegH_lha (n := -5998017) (l := 0) (h := 101) (by decide) (by decide) (by decide)
  have o := hz_ok (s := vegaS) (a := 0) (b := 0) (u := 0) (v := 0) vegH_ok (by decide) e
  have hE := o.asn
  have hA : abE [] [vegH] vegaS 0 0 0 0 (-5998017) (-5998017) = 0 := by unfold abE; rw [if_pos ⟨by decide, by decide⟩, e]
  refine ⟨hA, ?_⟩
  have hL : 1 ≤ hzL [] [vegH] vegaS 0 0 0 0 (-5998017) (-5998017) := by
    unfold hzL
    rw [if_pos e]
    unfold asL
    rw [if_pos hE]
    unfold hzS0
    rw [vegH_where, f, g]
    have k : bHi 1 ≤ altS0 0 0 (-50) 50 0 101 := by decide +kernel
    show 1 ≤ asnI (mx (altS0 0 0 (-50) 50 0 101) (-1073741824))
    exact asnI_ge (by decide) (by decide) (by rw [mx_eq]; omega)
  unfold abN sdI
  rw [if_pos hA, if_pos (by omega)]
theorem vegH_dn : abE [] [vegH] vegaS 0 0 0 0 4801983 4801983 = 0 ∧ abN [] [vegH] vegaS 0 0 0 0 4801983 4801983 = -1 := by
  obtain ⟨e, f, g⟩ := vegH_lha (n := 4801983) (l := 10800000) (h := 10800101) (by decide) (by decide) (by decide)
  have o := hz_ok (s := vegaS) (a := 0) (b := 0) (u := 0) (v := 0) vegH_ok (by decide) e
  have hE := o.asn
  have hA : abE [] [vegH] vegaS 0 0 0 0 4801983 4801983 = 0 := by unfold abE; rw [if_pos ⟨by decide, by decide⟩, e]
  refine ⟨hA, ?_⟩
  have hH : hzH [] [vegH] vegaS 0 0 0 0 4801983 4801983 ≤ -1 := by
    unfold hzH
    rw [if_pos e]
    unfold asH
    rw [if_pos hE]
    unfold hzS1
    rw [vegH_where, f, g]
    have k : altS1 0 0 (-50) 50 10800000 10800101 ≤ -(bHi 1) := by decide +kernel
    have k2 : 0 ≤ bHi 1 := by decide +kernel
    have := asnI_ge (v := -(mn (altS1 0 0 (-50) 50 10800000 10800101) 1073741824)) (n := 1) (by decide) (by decide) (by rw [mn_eq]; omega)
    show -(asnI (-(mn (altS1 0 0 (-50) 50 10800000 10800101) 1073741824))) ≤ -1
    omega
  have := o.le
  unfold abN sdI
  rw [if_pos hA, if_neg (by omega), if_pos (by omega)]
theorem pgsD_nil (P : Nat → Prop) (w : World) : PgsD P w (.slice none 0 0) [] := ⟨[], SlG.nil pgR w, (fun b o n c e _ => by cases e), rfl, fun i x p h => by simp at h⟩
theorem vegH_lit (w : World) (L : List (Obj ⊕ Ext)) : SlG stR (lay w (.inl (.cells #[.string vegaS, .int .i64 0, .int .i64 0, .int .i64 1] 117 (0, 0)) :: L)) (.slice (some ⟨posn w (shp L), 0, none⟩) 1 1) [vegH] :=
  (owG_lit stOk [vegH] rfl (by decide) (by intro x hx; rw [List.mem_singleton.1 hx]; exact ⟨by decide, by decide, by decide, by decide⟩)).sl stOk
end Go.Proofs.YthjfadfebhjhbaaGreat
/- The example of chapter 50 (awake). -/
namespace Go.Proofs.YthjfadfebhjhbaaGreat
open Go.RowKit Go.Shelf

def StarPost (w : World) (e : Ending) (w' : World) : Prop :=
  ∃ bk A c w1 d, e = .returned (.tuple #[.pointer (some ⟨bk, 0, none⟩), .agg #[.slice none 0 0, .slice A 1 c]]) ∧ w' = bw w d ∧ BkA w1 bk [] [vegH] (bw w d) ∧ SlG stR (bw w d) (.slice A 1 c) [vegH]
set_option maxHeartbeats 2000000 in
set_option maxRecDepth 100000 in
theorem law50_star (w : World) : Calls Tryz.prog 29 #[] w (StarPost w) := by
  refine lay_start ?_
  go_enter Tryz.func29, Tryz.ntmps29
  go_wp2_with fail
  have hS := vegH_lit w [.inl (.cells #[.slice none 0 0, .slice none 0 0] 38 (0, 0))]
  have HS := Lib.hid hS
  refine (alm_New_yes (P := fun _ => False) (.slice none 0 0) (.slice (some ⟨posn w [1], 0, none⟩) 1 1) [] [vegH] (lay w [.inl (.cells #[.string vegaS, .int .i64 0, .int .i64 0, .int .i64 1] 117 (0, 0)), .inl (.cells #[.slice none 0 0, .slice none 0 0] 38 (0, 0))]) (pgsD_nil _ _) (fun _ h => h.elim) hS vegH_new).mono ?_
  clear hS
  rintro e w' ⟨bk, d1, rfl, rfl, hB⟩
  rw [lay_bw] at hB ⊢
  have HB := Lib.hid hB
  clear hB
  go_wp2_with fail
  obtain ⟨z, hz⟩ := lay_ex w [.inr d1, .inl (.cells #[.string vegaS, .int .i64 0, .int .i64 0, .int .i64 1] 117 (0, 0)), .inl (.cells #[.slice none 0 0, .slice (some ⟨posn w [1], 0, none⟩) 1 1] 38 (0, 0))]
  refine bodyPost_ret (v := .tuple #[.pointer (some ⟨bk, 0, none⟩), .agg #[.slice none 0 0, .slice (some ⟨posn w [1], 0, none⟩) 1 1]]) (by simp [results, Tryz.results29, go_sem]) rfl ⟨bk, _, _, lay w [.inl (.cells #[.string vegaS, .int .i64 0, .int .i64 0, .int .i64 1] 117 (0, 0)), .inl (.cells #[.slice none 0 0, .slice (some ⟨posn w [1], 0, none⟩) 1 1] 38 (0, 0))], z, rfl, hz, ?_, ?_⟩
  · rw [← hz]
    refine bka_swap (w1 := lay w [.inl (.cells #[.string vegaS, .int .i64 0, .int .i64 0, .int .i64 1] 117 (0, 0)), .inl (.cells #[.slice none 0 0, .slice none 0 0] 38 (0, 0))]) (d := d1) ?_ HB.out
    rw [lay_size, lay_size]
    rfl
  · rw [← hz]
    exact slG_on (A := [.inr d1]) (vegH_lit w [.inl (.cells #[.slice none 0 0, .slice (some ⟨posn w [1], 0, none⟩) 1 1] 38 (0, 0))])
set_option maxHeartbeats 1000000 in
theorem law50_one (n : Int) (w : World) : Calls Tryz.prog 31 #[.int .i64 n] w fun e w' => e = .returned (.agg #[.int .i64 (n), .int .i64 (n)]) ∧ ∃ d, w' = bw w d := by
  refine lay_start ?_
  go_enter Tryz.func31, Tryz.ntmps31
  go_wp2
  exact bodyPost_ret (v := (.agg #[.int .i64 (n), .int .i64 (n)])) (by simp [results, Tryz.results31, go_sem]) rfl ⟨rfl, lay_ex _ _⟩
set_option maxHeartbeats 2000000 in
set_option maxRecDepth 100000 in
theorem law50_awake (w : World) : Calls Tryz.prog 8 #[] w fun e w' => e = .returned (.bool true) ∧ ∃ d, w' = bw w d := by
  refine lay_start ?_
  go_enter Tryz.func8, Tryz.ntmps8
  go_wp2_with fail
  refine (law50_star _).mono ?_
  rintro e w' ⟨bk, A, c, w1, d1, rfl, rfl, hB, hS⟩
  rw [lay_bw] at hB hS ⊢
  have HA1 := Lib.hid (fun L => made_Above hB vegH_ok vegaS 0 0 0 0 (-5998017) (-5998017) L)
  rw [vegH_up.1, vegH_up.2] at HA1
  have HA2 := Lib.hid (fun L => made_Above hB vegH_ok vegaS 0 0 0 0 4801983 4801983 L)
  rw [vegH_dn.1, vegH_dn.2] at HA2
  have HW := Lib.hid (fun L => ref17_Where (.slice none 0 0) (.slice A 1 c) [] [vegH] vegaS 0 0 (lay _ L) ((rfL_of (pgsD_nil (fun _ => False) _) hS vegH_ok).lay L))
  rw [vegH_where] at HW
  change Hid (∀ L, Calls Tryz.prog _ _ _ fun e w' => e = .returned (.tuple #[(.agg #[.int .i64 (5998017), .int .i64 (5998118), .int .i64 (-50), .int .i64 (50), .int .i64 (0), .int .i64 (0), .int .i64 (0), .int .i64 (0)]), .int .i64 0]) ∧ ∃ d, w' = bw _ d) at HW
  simp only [← lay_appG] at HA1 HA2 HW
  clear hB hS
  go_wp2_with fail
  refine (HW.out [_]).mono ?_
  rintro e w' ⟨rfl, d2, rfl⟩
  rw [lay_bw]
  go_wp2_with fail
  clear HW
  go_loopw [5] (fun v5 wr => v5 = .int .i64 (-5998017) ∧ wr = lay w [.inl (.cells #[.int .i64 5998017, .int .i64 5998118, .int .i64 (-50), .int .i64 50, .int .i64 0, .int .i64 0, .int .i64 0, .int .i64 0] 76 (0, 0)), .inr d2, .inl (.cells #[.slice none 0 0, .slice A 1 c] 38 (0, 0)), .inr d1]) (fun _ _ => 0)
  case atStart => exact ⟨rfl, rfl⟩
  case round =>
    obtain ⟨rfl, rfl⟩ := hrel
    go_wp2_with (go_at_call 31; refine (law50_one _ _).mono ?_; rintro e w' ⟨rfl, d3, rfl⟩; rw [lay_bw])
    refine (HA1.out [_, _, _, _]).mono ?_
    rintro e w' ⟨rfl, d4, rfl⟩
    rw [lay_bw]
    go_wp2_with (go_at_call 31; refine (law50_one _ _).mono ?_; rintro e w' ⟨rfl, d5, rfl⟩; rw [lay_bw])
    refine (HA2.out [_, _, _, _, _, _]).mono ?_
    rintro e w' ⟨rfl, d6, rfl⟩
    rw [lay_bw]
    go_wp2_with fail
    go_ret
    exact ⟨rfl, lay_ex _ _⟩
end Go.Proofs.YthjfadfebhjhbaaGreat
/- Phase: the program's and the reference's. -/
namespace Go.Proofs.YthjfadfebhjhbaaGreat
open Go.RowKit Go.Shelf

def sunS : ByteArray := ⟨#[83, 117, 110]⟩
/-- The phase and its error number. -/
noncomputable def phR (lp : List PgV) (ls : List StarV) (u x t : Int) : Int × Int :=
  if ptB u x = false then (0, 1) else if insB t = false then (0, 2) else if lhaE lp ls sunS t t x x = 0 then phF (hzL lp ls sunS t t u u x x) (hzH lp ls sunS t t u u x x) lims 0 else (0, lhaE lp ls sunS t t x x)
theorem ph_cons {l h x n : Int} {t : List Int} : phF l h (x :: t) n = if l ≤ x ∧ x ≤ h then (0, 24) else phF l h t (if h < x then n + 1 else n) := by
  conv => lhs; unfold phF
theorem ph_out {l h x n : Int} {t : List Int} (c : ¬ (l ≤ x ∧ x ≤ h)) (c2 : h < x) : phF l h (x :: t) n = phF l h t (n + 1) := by rw [ph_cons, if_neg c, if_pos c2]
theorem ph_keep {l h x n : Int} {t : List Int} (c : ¬ (l ≤ x ∧ x ≤ h)) (c2 : ¬ h < x) : phF l h (x :: t) n = phF l h t n := by rw [ph_cons, if_neg c, if_neg c2]
theorem ph_in {l h x n : Int} {t : List Int} (c : l ≤ x ∧ x ≤ h) : phF l h (x :: t) n = (0, 24) := by rw [ph_cons, if_pos c]
/-- The i-th limit, or what is left. -/
def limI (i : Nat) : Int := (lims[i]?).getD 0
theorem lim_drop {i : Nat} (h : i < 4) : lims.drop i = limI i :: lims.drop (i + 1) := by
  match i, h with
  | 0, _ => rfl
  | 1, _ => rfl
  | 2, _ => rfl
  | 3, _ => rfl
set_option maxHeartbeats 1000000 in
theorem hz_here (bk : Nat) (u x : Int) (w : World) :
    Calls Tryz.prog 36 #[.pointer (some ⟨bk, 0, none⟩), (.agg #[.int .i64 (u), .int .i64 (x)])] w fun e w' => e = .returned (if ptB u x = true then .tuple #[(.agg #[.int .i64 (u), .int .i64 (u), .int .i64 (x), .int .i64 (x)]), .int .i64 0] else .tuple #[(.agg #[.int .i64 (0), .int .i64 (0), .int .i64 (0), .int .i64 (0)]), .int .i64 1]) ∧ ∃ d, w' = bw w d := by
  have HA := Lib.hid (fun W => plc_Of u x W)
  generalize ptB u x = p at *
  cases p
  · refine lay_start ?_
    go_enter Tryz.func36, Tryz.ntmps36
    go_wp2_with (go_at_call 77; refine (HA.out _).mono ?_; rintro e w' ⟨rfl, d1, rfl⟩; rw [lay_bw, if_neg (by decide)])
    exact bodyPost_ret (v := .tuple #[(.agg #[.int .i64 (0), .int .i64 (0), .int .i64 (0), .int .i64 (0)]), .int .i64 1]) (by simp [results, Tryz.results36, go_sem]) rfl ⟨by simp, lay_ex _ _⟩
  · refine lay_start ?_
    go_enter Tryz.func36, Tryz.ntmps36
    go_wp2_with (go_at_call 77; refine (HA.out _).mono ?_; rintro e w' ⟨rfl, d1, rfl⟩; rw [lay_bw, if_pos rfl])
    exact bodyPost_ret (v := .tuple #[(.agg #[.int .i64 (u), .int .i64 (u), .int .i64 (x), .int .i64 (x)]), .int .i64 0]) (by simp [results, Tryz.results36, go_sem]) rfl ⟨by simp, lay_ex _ _⟩
set_option maxHeartbeats 1000000 in
theorem hz_here_nil (u x : Int) (w : World) :
    Calls Tryz.prog 36 #[.pointer none, (.agg #[.int .i64 (u), .int .i64 (x)])] w fun e w' => e = .returned (.tuple #[(.agg #[.int .i64 (0), .int .i64 (0), .int .i64 (0), .int .i64 (0)]), .int .i64 1]) ∧ ∃ d, w' = bw w d := by
  refine lay_start ?_
  go_enter Tryz.func36, Tryz.ntmps36
  go_wp2_with fail
  exact bodyPost_ret (v := .tuple #[(.agg #[.int .i64 (0), .int .i64 (0), .int .i64 (0), .int .i64 (0)]), .int .i64 1]) (by simp [results, Tryz.results36, go_sem]) rfl ⟨rfl, lay_ex _ _⟩
set_option maxHeartbeats 1000000 in
theorem hz_limits (w : World) :
    Calls Tryz.prog 38 #[] w fun e w' => e = .returned (.agg #[.int .i64 (-50000), .int .i64 (-360000), .int .i64 (-720000), .int .i64 (-1080000)]) ∧ ∃ d, w' = bw w d := by
  refine lay_start ?_
  go_enter Tryz.func38, Tryz.ntmps38
  go_wp2_with fail
  exact bodyPost_ret (v := (.agg #[.int .i64 (-50000), .int .i64 (-360000), .int .i64 (-720000), .int .i64 (-1080000)])) (by simp [results, Tryz.results38, go_sem]) rfl ⟨rfl, lay_ex _ _⟩
set_option maxRecDepth 100000 in
theorem ixh0 (W : World) : (Instr.index 85 (.agg #[.int .i64 (-50000), .int .i64 (-360000), .int .i64 (-720000), .int .i64 (-1080000)]) (.int .i64 0)).run Tryz.prog W = .ok (.int .i64 (-50000)) W := by kernel_rfl
set_option maxRecDepth 100000 in
theorem ixh1 (W : World) : (Instr.index 85 (.agg #[.int .i64 (-50000), .int .i64 (-360000), .int .i64 (-720000), .int .i64 (-1080000)]) (.int .i64 1)).run Tryz.prog W = .ok (.int .i64 (-360000)) W := by kernel_rfl
set_option maxRecDepth 100000 in
theorem ixh2 (W : World) : (Instr.index 85 (.agg #[.int .i64 (-50000), .int .i64 (-360000), .int .i64 (-720000), .int .i64 (-1080000)]) (.int .i64 2)).run Tryz.prog W = .ok (.int .i64 (-720000)) W := by kernel_rfl
set_option maxRecDepth 100000 in
theorem ixh3 (W : World) : (Instr.index 85 (.agg #[.int .i64 (-50000), .int .i64 (-360000), .int .i64 (-720000), .int .i64 (-1080000)]) (.int .i64 3)).run Tryz.prog W = .ok (.int .i64 (-1080000)) W := by kernel_rfl
theorem ixh (i : Nat) (h : i < 4) (W : World) : (Instr.index 85 (.agg #[.int .i64 (-50000), .int .i64 (-360000), .int .i64 (-720000), .int .i64 (-1080000)]) (.int .i64 (i : Int))).run Tryz.prog W = .ok (.int .i64 (limI i)) W := by
  match i, h with
  | 0, _ => exact ixh0 W
  | 1, _ => exact ixh1 W
  | 2, _ => exact ixh2 W
  | 3, _ => exact ixh3 W
theorem lim_bd (i : Nat) : -5400000 ≤ limI i ∧ limI i ≤ 0 := by
  match i with
  | 0 => decide
  | 1 => decide
  | 2 => decide
  | 3 => decide
  | n + 4 => exact ⟨by show (-5400000 : Int) ≤ 0; decide, by show (0 : Int) ≤ 0; decide⟩
set_option maxHeartbeats 1000000 in
theorem hz_Phase_nil (u x t : Int) (w : World) :
    Calls Tryz.prog 10 #[.pointer none, (.agg #[.int .i64 (u), .int .i64 (x)]), .int .i64 t] w fun e w' => e = .returned (.tuple #[.int .i64 0, .int .i64 1]) ∧ ∃ d, w' = bw w d := by
  refine lay_start ?_
  go_enter Tryz.func10, Tryz.ntmps10
  go_wp2_with (go_at_call 36; refine (hz_here_nil _ _ _).mono ?_; rintro e w' ⟨rfl, d1, rfl⟩; rw [lay_bw])
  exact bodyPost_ret (v := .tuple #[.int .i64 0, .int .i64 1]) (by simp [results, Tryz.results10, go_sem]) rfl ⟨rfl, lay_ex _ _⟩
set_option maxHeartbeats 4000000 in
set_option maxRecDepth 100000 in
theorem made_Phase {w : World} {bk : Nat} {lp : List PgV} {ls : List StarV} {W : World} (h : BkA w bk lp ls W) (k : NewOk lp ls) (u x t : Int) (L : List (Obj ⊕ Ext)) :
    Calls Tryz.prog 10 #[.pointer (some ⟨bk, 0, none⟩), (.agg #[.int .i64 (u), .int .i64 (x)]), .int .i64 t] (lay W L) fun e w' => e = .returned (.tuple #[.int .i64 (phR lp ls u x t).1, .int .i64 (phR lp ls u x t).2]) ∧ ∃ d, w' = bw (lay W L) d := by
  have HA := Lib.hid (fun hu L' => made_altitude (h.bw L) k sunS t t u u x x hu L')
  have HOk := Lib.hid (fun hu h0 => hz_ok (s := sunS) (a := t) (b := t) (u := u) (v := u) (x := x) (y := x) k hu h0)
  have HH := Lib.hid (fun W => hz_here bk u x W)
  have HI := Lib.hid (fun W => hz_instant t W)
  clear h k
  cases hp : ptB u x
  · have e1 : phR lp ls u x t = (0, 1) := by unfold phR; rw [if_pos hp]
    rw [e1]
    rw [hp, if_neg (by decide)] at HH
    clear e1 HA hp
    generalize lay W L = w at *
    refine lay_start ?_
    go_enter Tryz.func10, Tryz.ntmps10
    go_wp2_with (go_at_call 36; refine (HH.out _).mono ?_; rintro e w' ⟨rfl, d1, rfl⟩; rw [lay_bw])
    exact bodyPost_ret (v := .tuple #[.int .i64 0, .int .i64 1]) (by simp [results, Tryz.results10, go_sem]) rfl ⟨rfl, lay_ex _ _⟩
  · obtain ⟨-, hu, -⟩ := pt_plc hp
    rw [hp, if_pos rfl] at HH
    cases ht : insB t
    · have e1 : phR lp ls u x t = (0, 2) := by unfold phR; rw [if_neg (by rw [hp]; decide), if_pos ht]
      rw [e1]
      rw [ht] at HI
      clear e1 HA hp ht hu
      generalize lay W L = w at *
      refine lay_start ?_
      go_enter Tryz.func10, Tryz.ntmps10
      go_wp2_with (first | (go_at_call 36; refine (HH.out _).mono ?_; rintro e w' ⟨rfl, d1, rfl⟩; rw [lay_bw]) | (go_at_call 37; refine (HI.out _).mono ?_; rintro e w' ⟨rfl, d2, rfl⟩; rw [lay_bw]))
      exact bodyPost_ret (v := .tuple #[.int .i64 0, .int .i64 2]) (by simp [results, Tryz.results10, go_sem]) rfl ⟨rfl, lay_ex _ _⟩
    · have e1 : phR lp ls u x t = if lhaE lp ls sunS t t x x = 0 then phF (hzL lp ls sunS t t u u x x) (hzH lp ls sunS t t u u x x) lims 0 else (0, lhaE lp ls sunS t t x x) := by unfold phR; rw [if_neg (by rw [hp]; decide), if_neg (by rw [ht]; decide)]
      rw [e1]
      rw [ht] at HI
      have HB := Lib.hid (fun L' => HA.out hu L')
      have HO : lhaE lp ls sunS t t x x = 0 → -5400000 ≤ hzL lp ls sunS t t u u x x ∧ hzL lp ls sunS t t u u x x ≤ hzH lp ls sunS t t u u x x ∧ hzH lp ls sunS t t u u x x ≤ 5400000 := fun h0 => have o := HOk.out hu h0; ⟨o.lo, o.le, o.hi⟩
      clear e1 HA hp ht hu HOk
      generalize hzL lp ls sunS t t u u x x = p at *
      generalize hzH lp ls sunS t t u u x x = q at *
      generalize lhaE lp ls sunS t t x x = E at *
      generalize lay W L = w at *
      by_cases h0 : E = 0
      · subst h0
        rw [if_pos rfl]
        refine lay_start ?_
        go_enter Tryz.func10, Tryz.ntmps10
        go_wp2_with (first | (go_at_call 36; refine (HH.out _).mono ?_; rintro e w' ⟨rfl, d1, rfl⟩; rw [lay_bw]) | (go_at_call 37; refine (HI.out _).mono ?_; rintro e w' ⟨rfl, d2, rfl⟩; rw [lay_bw]) | (go_at_call 34; refine (HB.out _).mono ?_; rintro e w' ⟨rfl, d3, rfl⟩; rw [lay_bw]) | (go_at_call 38; refine (hz_limits _).mono ?_; rintro e w' ⟨rfl, d4, rfl⟩; rw [lay_bw]))
        obtain ⟨o1, o2, o3⟩ := HO trivial
        clear HO HH HI HB
        go_loopw [40, 11] (fun v40 v11 wr => ∃ (i : Nat) (n : Int) (dd : Ext), i ≤ 4 ∧ 0 ≤ n ∧ n ≤ (i : Int) ∧ v40 = .int .i64 (i : Int) ∧ v11 = .int .i64 n ∧ wr = lay w (.inr dd :: [.inl (Obj.cells #[.int .i64 p, .int .i64 q] 26), .inr d3, .inr d2, .inl (Obj.cells #[.int .i64 u, .int .i64 u, .int .i64 x, .int .i64 x] 28), .inr d1, .inl (Obj.cells #[.int .i64 u, .int .i64 x] 30)]) ∧ phF p q (lims.drop i) n = phF p q lims 0) (fun v40 _ _ => (4 - intOf v40).toNat)
        case atStart => exact ⟨0, 0, _, by decide, by decide, by decide, rfl, rfl, rfl, rfl⟩
        case round =>
          obtain ⟨i, n, dd, hi, hn0, hn1, rfl, rfl, rfl, hF⟩ := hrel
          by_cases h4 : i < 4
          · have ix := ixh i h4
            have lb := lim_bd i
            rw [lim_drop h4] at hF
            generalize limI i = X at *
            have HIn := Lib.hid (fun W => angle_Inside X X p q W)
            have hv : inside2B X X p q = decide (p ≤ X ∧ X ≤ q) := by
              unfold inside2B insideB
              rw [validB_iff.2 (by omega), validB_iff.2 (by omega)]
              rfl
            rw [hv] at HIn
            clear hv
            have g4 : (i : Int) < 4 := by omega
            have k1 : IntKind.i64.wrap ((i : Int) + 1) = ((i + 1 : Nat) : Int) := by rw [IntWalk.i64_in _ (by omega)]; omega
            by_cases c : p ≤ X ∧ X ≤ q
            · rw [decide_eq_true c] at HIn
              rw [ph_in c] at hF
              go_wp2_with (go_at_call 39; refine (HIn.out _).mono ?_; rintro e w' ⟨rfl, d5, rfl⟩; rw [lay_bw])
              exact bodyPost_ret (v := .tuple #[.int .i64 0, .int .i64 24]) (by simp [results, Tryz.results10, go_sem]) rfl ⟨by rw [← hF], lay_ex _ _⟩
            · rw [decide_eq_false c] at HIn
              by_cases c2 : q < X
              · rw [ph_out c c2] at hF
                have k2 : IntKind.i64.wrap (n + 1) = n + 1 := IntWalk.i64_in _ (by omega)
                clear c
                go_wp2_with (go_at_call 39; refine (HIn.out _).mono ?_; rintro e w' ⟨rfl, d5, rfl⟩; rw [lay_bw])
                go_roundw
                case rel => exact ⟨i + 1, n + 1, _, by omega, by omega, by omega, rfl, rfl, (lay_fold w [_, _] _).choose_spec, hF⟩
                case measure => simp [intOf]; omega
              · rw [ph_keep c c2] at hF
                clear c
                go_wp2_with (go_at_call 39; refine (HIn.out _).mono ?_; rintro e w' ⟨rfl, d5, rfl⟩; rw [lay_bw])
                go_roundw
                case rel => exact ⟨i + 1, n, _, by omega, by omega, by omega, rfl, rfl, (lay_fold w [_, _] _).choose_spec, hF⟩
                case measure => simp [intOf]; omega
          · obtain rfl : i = 4 := by omega
            have e : phF p q (lims.drop 4) n = (n, 0) := rfl
            rw [e] at hF
            go_wp2_with fail
            exact bodyPost_ret (v := .tuple #[.int .i64 n, .int .i64 0]) (by simp [results, Tryz.results10, go_sem]) rfl ⟨by rw [← hF], lay_ex _ _⟩
      · rw [if_neg h0]
        have e1 : (E != 0) = true := by simpa using h0
        have e2 : (E == 0) = false := beq_eq_false_iff_ne.2 h0
        refine lay_start ?_
        go_enter Tryz.func10, Tryz.ntmps10
        go_wp2_with (first | (go_at_call 36; refine (HH.out _).mono ?_; rintro e w' ⟨rfl, d1, rfl⟩; rw [lay_bw]) | (go_at_call 37; refine (HI.out _).mono ?_; rintro e w' ⟨rfl, d2, rfl⟩; rw [lay_bw]) | (go_at_call 34; refine (HB.out _).mono ?_; rintro e w' ⟨rfl, d3, rfl⟩; rw [lay_bw]))
        exact bodyPost_ret (v := .tuple #[.int .i64 0, .int .i64 E]) (by simp [results, Tryz.results10, go_sem]) rfl ⟨rfl, lay_ex _ _⟩
set_option maxHeartbeats 1000000 in
theorem r50_Limits (w : World) :
    Calls Tryz.prog 48 #[] w fun e w' => e = .returned (.slice (some ⟨posn w [], 0, none⟩) 4 4) ∧ w' = lay w [.inl (.cells #[.int .i64 (-50000), .int .i64 (-360000), .int .i64 (-720000), .int .i64 (-1080000)] 3 (0, 0))] := by
  refine lay_start ?_
  go_enter Tryz.func48, Tryz.ntmps48
  go_wp2_with fail
  go_ret
  exact ⟨rfl, rfl⟩
theorem r50_LimitsL (w : World) (L : List (Obj ⊕ Ext)) :
    Calls Tryz.prog 48 #[] (lay w L) fun e w' => e = .returned (.slice (some ⟨posn w (shp L), 0, none⟩) 4 4) ∧ w' = lay w (.inl (.cells #[.int .i64 (-50000), .int .i64 (-360000), .int .i64 (-720000), .int .i64 (-1080000)] 3 (0, 0)) :: L) := by
  refine (r50_Limits (lay w L)).mono fun e w' ⟨h1, h2⟩ => ⟨?_, h2⟩
  rw [h1]
  have : posn (lay w L) [] = posn w (shp L) := by rw [← lay_size]; rfl
  rw [this]
theorem sd_in {p q X : Int} (c : p ≤ X ∧ X ≤ q) : sdI p q X = 0 := by unfold sdI; rw [if_neg (by omega), if_neg (by omega)]
theorem sd_dn {p q X : Int} (h : p ≤ q) (c : q < X) : sdI p q X = -1 := by unfold sdI; rw [if_neg (by omega), if_pos c]
theorem sd_up {p q X : Int} (c : X < p) : sdI p q X = 1 := by unfold sdI; rw [if_pos c]
set_option maxHeartbeats 4000000 in
set_option maxRecDepth 100000 in
theorem r50_Phase {P : Nat → Prop} (vp vs : Value) (lp : List PgV) (ls : List StarV) (u x t : Int) (w : World) (h : RfL P w vp vs lp ls) (k : NewOk lp ls) (hp : ptB u x = true) :
    Calls Tryz.prog 17 #[.agg #[vp, vs], (.agg #[.int .i64 (u), .int .i64 (x)]), .int .i64 t] w fun e w' => e = .returned (.tuple #[.int .i64 (phR lp ls u x t).1, .int .i64 (phR lp ls u x t).2]) ∧ ∃ d, w' = bw w d := by
  obtain ⟨-, hu, -⟩ := pt_plc hp
  have HA := Lib.hid (fun L' => r50_Altitude vp vs lp ls sunS t t u u x x (lay w L') (h.lay L') k hu)
  have HOk := Lib.hid (fun h0 => hz_ok (s := sunS) (a := t) (b := t) (u := u) (v := u) (x := x) (y := x) k hu h0)
  have HP := Lib.hid (fun W => r50_Point u x W)
  have HI := Lib.hid (fun W => ref10_Instant t W)
  clear h k
  cases ht : insB t
  · have e1 : phR lp ls u x t = (0, 2) := by unfold phR; rw [if_neg (by rw [hp]; decide), if_pos ht]
    rw [e1]
    rw [ht] at HI
    clear e1 HA hp ht hu HOk
    refine lay_start ?_
    go_enter Tryz.func17, Tryz.ntmps17
    go_wp2_with (first | (go_at_call 42; refine (HI.out _).mono ?_; rintro e w' ⟨rfl, rfl⟩))
    exact bodyPost_ret (v := .tuple #[.int .i64 0, .int .i64 2]) (by simp [results, Tryz.results17, go_sem]) rfl ⟨rfl, lay_ex _ _⟩
  · have e1 : phR lp ls u x t = if lhaE lp ls sunS t t x x = 0 then phF (hzL lp ls sunS t t u u x x) (hzH lp ls sunS t t u u x x) lims 0 else (0, lhaE lp ls sunS t t x x) := by unfold phR; rw [if_neg (by rw [hp]; decide), if_neg (by rw [ht]; decide)]
    rw [e1]
    rw [ht] at HI
    have HO : lhaE lp ls sunS t t x x = 0 → -5400000 ≤ hzL lp ls sunS t t u u x x ∧ hzL lp ls sunS t t u u x x ≤ hzH lp ls sunS t t u u x x ∧ hzH lp ls sunS t t u u x x ≤ 5400000 := fun h0 => have o := HOk.out h0; ⟨o.lo, o.le, o.hi⟩
    clear e1 hp ht hu HOk
    generalize hzL lp ls sunS t t u u x x = p at *
    generalize hzH lp ls sunS t t u u x x = q at *
    generalize lhaE lp ls sunS t t x x = E at *
    by_cases h0 : E = 0
    · subst h0
      rw [if_pos rfl]
      obtain ⟨o1, o2, o3⟩ := HO rfl
      clear HO
      refine lay_start ?_
      go_enter Tryz.func17, Tryz.ntmps17
      go_wp2_with (first | (go_at_call 42; refine (HI.out _).mono ?_; rintro e w' ⟨rfl, rfl⟩))
      refine region_mixW [0, 0, 0, 0, 0, 0, 0, 0, 0, 0, 1, 1, 0] (by kernel_rfl) (by kernel_rfl) (by kernel_rfl) ?_
      repeat (first | (refine wpM_quiet (fun K hK => ?_); go_simp; first | (refine hK _ ?_; clear hK K) | (apply Exists.intro; refine ⟨fun _ => ?_, hK _ ?_⟩; (first | (go_at_call 18; exact bq (HP.out _) (fun d => ⟨d, rfl⟩)) | (go_at_call 14; exact bq (HA.out _) (fun d => ⟨d, rfl⟩))); clear hK K)) | (refine wpM_special (fun K hK d => ?_); go_simp; refine hK _ _ (by first | exact lay_in w [_] _ | exact lay_in w [_, _] _ | exact lay_in w [_, _, _] _ | exact lay_in w [_, _, _, _] _ | exact lay_in w [_, _, _, _, _] _ | exact lay_in w [_, _, _, _, _, _] _) ?_; clear hK K))
      refine wpM_nil ?_
      intro d
      rw [lay_bw]
      rename_i e1 e2
      go_wp2_with fail
      clear HP HI HA
      go_loopw [11, 10] (fun v11 v10 wr => ∃ (i : Nat) (n : Int) (dd : Ext), i ≤ 4 ∧ 0 ≤ n ∧ n ≤ (i : Int) ∧ v11 = .int .i64 (i : Int) ∧ v10 = .int .i64 n ∧ wr = lay w (.inr dd :: [.inl (Obj.cells #[.int .i64 p, .int .i64 q] 26), .inr e1, .inl (Obj.cells #[.int .i64 u, .int .i64 x] 30), .inl (Obj.cells #[vp, vs] 38)]) ∧ phF p q (lims.drop i) n = phF p q lims 0) (fun v11 _ _ => (4 - intOf v11).toNat)
      case atStart => exact ⟨0, 0, _, by decide, by decide, by decide, rfl, rfl, (lay_fold w [_, _] _).choose_spec, rfl⟩
      case round =>
        obtain ⟨i, n, dd, hi, hn0, hn1, rfl, rfl, rfl, hF⟩ := hrel
        by_cases h4 : i < 4
        · obtain ⟨cs, hcs⟩ : ∃ cs, (#[.int .i64 (-50000), .int .i64 (-360000), .int .i64 (-720000), .int .i64 (-1080000)] : Array Value) = cs := ⟨_, rfl⟩
          have hget : cs[i]? = some (.int .i64 (limI i)) := by
            rw [← hcs]
            match i, h4 with
            | 0, _ => rfl
            | 1, _ => rfl
            | 2, _ => rfl
            | 3, _ => rfl
          have HLm := Lib.hid (fun L => r50_LimitsL w L)
          rw [hcs] at HLm
          clear hcs
          rw [lim_drop h4] at hF
          generalize limI i = X at *
          have hcell : ∀ (d x1 : Ext), (lay w [.inr d, .inl (.cells cs 3 (0, 0)), .inr x1, .inr dd, .inl (.cells #[.int .i64 p, .int .i64 q] 26 (0, 0)), .inr e1, .inl (.cells #[.int .i64 u, .int .i64 x] 30 (0, 0)), .inl (.cells #[vp, vs] 38 (0, 0))]).cell? ⟨posn w [x1.n, dd.n, 1, e1.n, 1, 1], i, none⟩ = some (.int .i64 X) := by
            intro d x1
            simp [go_sem, hget]
          have HSd := Lib.hid (fun W => r50_Side p q X W)
          have g4 : (i : Int) < 4 := by omega
          have g0 : (0 : Int) ≤ (i : Int) := by omega
          have k1 : IntKind.i64.wrap ((i : Int) + 1) = ((i + 1 : Nat) : Int) := by rw [IntWalk.i64_in _ (by omega)]; omega
          by_cases c : p ≤ X ∧ X ≤ q
          · rw [sd_in c] at HSd
            rw [ph_in c] at hF
            go_wp2_with fail
            refine region_mixB 6 (.q 0 (.q 2 (.one 1 (.q 3 (.one 4 (.one 5 .done)))))) (by kernel_rfl) (by kernel_rfl) (by kernel_rfl) (by kernel_rfl) (by simp) (by kernel_rfl) ?_
            simp only [List.drop_succ_cons, List.drop_zero]
            iterate 2 (refine wpMB_quiet rfl (fun K hK => ?_); go_simp; refine hK _ ?_; clear hK K)
            refine wpMB_one ?_
            refine spB_of rfl (fun K hK x1 => ?_)
            rw [lay_bw]
            go_simp
            refine (HLm.out _).mono ?_
            rintro e w' ⟨rfl, rfl⟩
            refine ⟨_, rfl, hK _ _ (by first | exact lay_in w [_] _ | exact lay_in w [_, _] _ | exact lay_in w [_, _, _] _) ?_⟩
            clear hK K
            refine wpMB_quiet rfl (fun K hK => ?_); go_simp; refine hK _ ?_; clear hK K
            refine wpMB_one ?_
            refine spB_of rfl (fun K hK x2 => ?_)
            rw [lay_bw]
            go_simp
            refine hK _ _ (by first | exact lay_in w [_] _ | exact lay_in w [_, _] _ | exact lay_in w [_, _, _] _ | exact lay_in w [_, _, _, _] _ | exact lay_in w [_, _, _, _, _] _ | exact lay_in w [_, _, _, _, _, _] _) ?_
            clear hK K
            refine wpMB_one ?_
            refine spB_of rfl (fun K hK x3 => ?_)
            rw [lay_bw]
            go_simp
            refine (HSd.out _).mono ?_
            rintro e w' ⟨rfl, d6, rfl⟩
            rw [lay_bw]
            refine ⟨_, rfl, hK _ _ (by first | exact lay_in w [_] _ | exact lay_in w [_, _] _ | exact lay_in w [_, _, _] _ | exact lay_in w [_, _, _, _] _ | exact lay_in w [_, _, _, _, _] _ | exact lay_in w [_, _, _, _, _, _] _) ?_⟩
            clear hK K
            refine wpMB_done (fun x5 => ?_)
            show wpList _ _ _ _ _ _
            rw [lay_bw]
            go_wp2_with fail
            exact bodyPost_ret (v := .tuple #[.int .i64 0, .int .i64 24]) (by simp [results, Tryz.results17, go_sem]) rfl ⟨by rw [← hF], lay_ex _ _⟩
          · by_cases c2 : q < X
            · rw [sd_dn o2 c2] at HSd
              rw [ph_out c c2] at hF
              have k2 : IntKind.i64.wrap (n + 1) = n + 1 := IntWalk.i64_in _ (by omega)
              go_wp2_with fail
              refine region_mixB 6 (.q 0 (.q 2 (.one 1 (.q 3 (.one 4 (.one 5 .done)))))) (by kernel_rfl) (by kernel_rfl) (by kernel_rfl) (by kernel_rfl) (by simp) (by kernel_rfl) ?_
              simp only [List.drop_succ_cons, List.drop_zero]
              iterate 2 (refine wpMB_quiet rfl (fun K hK => ?_); go_simp; refine hK _ ?_; clear hK K)
              refine wpMB_one ?_
              refine spB_of rfl (fun K hK x1 => ?_)
              rw [lay_bw]
              go_simp
              refine (HLm.out _).mono ?_
              rintro e w' ⟨rfl, rfl⟩
              refine ⟨_, rfl, hK _ _ (by first | exact lay_in w [_] _ | exact lay_in w [_, _] _ | exact lay_in w [_, _, _] _) ?_⟩
              clear hK K
              refine wpMB_quiet rfl (fun K hK => ?_); go_simp; refine hK _ ?_; clear hK K
              refine wpMB_one ?_
              refine spB_of rfl (fun K hK x2 => ?_)
              rw [lay_bw]
              go_simp
              refine hK _ _ (by first | exact lay_in w [_] _ | exact lay_in w [_, _] _ | exact lay_in w [_, _, _] _ | exact lay_in w [_, _, _, _] _ | exact lay_in w [_, _, _, _, _] _ | exact lay_in w [_, _, _, _, _, _] _) ?_
              clear hK K
              refine wpMB_one ?_
              refine spB_of rfl (fun K hK x3 => ?_)
              rw [lay_bw]
              go_simp
              refine (HSd.out _).mono ?_
              rintro e w' ⟨rfl, d6, rfl⟩
              rw [lay_bw]
              refine ⟨_, rfl, hK _ _ (by first | exact lay_in w [_] _ | exact lay_in w [_, _] _ | exact lay_in w [_, _, _] _ | exact lay_in w [_, _, _, _] _ | exact lay_in w [_, _, _, _, _] _ | exact lay_in w [_, _, _, _, _, _] _) ?_⟩
              clear hK K
              refine wpMB_done (fun x5 => ?_)
              show wpList _ _ _ _ _ _
              rw [lay_bw]
              go_wp2_with fail
              go_roundw
              case rel => exact ⟨i + 1, n + 1, _, by omega, by omega, by omega, rfl, rfl, (by first | exact (lay_fold w [_, _, _, _] _).choose_spec | exact (lay_fold w [_, _, _, _, _, _] _).choose_spec | exact (lay_fold w [_, _, _, _, _] _).choose_spec | exact (lay_fold w [_, _, _, _, _, _, _] _).choose_spec), hF⟩
              case measure => simp [intOf]; omega
            · rw [sd_up (show X < p by omega)] at HSd
              rw [ph_keep c c2] at hF
              go_wp2_with fail
              refine region_mixB 6 (.q 0 (.q 2 (.one 1 (.q 3 (.one 4 (.one 5 .done)))))) (by kernel_rfl) (by kernel_rfl) (by kernel_rfl) (by kernel_rfl) (by simp) (by kernel_rfl) ?_
              simp only [List.drop_succ_cons, List.drop_zero]
              iterate 2 (refine wpMB_quiet rfl (fun K hK => ?_); go_simp; refine hK _ ?_; clear hK K)
              refine wpMB_one ?_
              refine spB_of rfl (fun K hK x1 => ?_)
              rw [lay_bw]
              go_simp
              refine (HLm.out _).mono ?_
              rintro e w' ⟨rfl, rfl⟩
              refine ⟨_, rfl, hK _ _ (by first | exact lay_in w [_] _ | exact lay_in w [_, _] _ | exact lay_in w [_, _, _] _) ?_⟩
              clear hK K
              refine wpMB_quiet rfl (fun K hK => ?_); go_simp; refine hK _ ?_; clear hK K
              refine wpMB_one ?_
              refine spB_of rfl (fun K hK x2 => ?_)
              rw [lay_bw]
              go_simp
              refine hK _ _ (by first | exact lay_in w [_] _ | exact lay_in w [_, _] _ | exact lay_in w [_, _, _] _ | exact lay_in w [_, _, _, _] _ | exact lay_in w [_, _, _, _, _] _ | exact lay_in w [_, _, _, _, _, _] _) ?_
              clear hK K
              refine wpMB_one ?_
              refine spB_of rfl (fun K hK x3 => ?_)
              rw [lay_bw]
              go_simp
              refine (HSd.out _).mono ?_
              rintro e w' ⟨rfl, d6, rfl⟩
              rw [lay_bw]
              refine ⟨_, rfl, hK _ _ (by first | exact lay_in w [_] _ | exact lay_in w [_, _] _ | exact lay_in w [_, _, _] _ | exact lay_in w [_, _, _, _] _ | exact lay_in w [_, _, _, _, _] _ | exact lay_in w [_, _, _, _, _, _] _) ?_⟩
              clear hK K
              refine wpMB_done (fun x5 => ?_)
              show wpList _ _ _ _ _ _
              rw [lay_bw]
              go_wp2_with fail
              go_roundw
              case rel => exact ⟨i + 1, n, _, by omega, by omega, by omega, rfl, rfl, (by first | exact (lay_fold w [_, _, _, _] _).choose_spec | exact (lay_fold w [_, _, _, _, _, _] _).choose_spec | exact (lay_fold w [_, _, _, _, _] _).choose_spec | exact (lay_fold w [_, _, _, _, _, _, _] _).choose_spec), hF⟩
              case measure => simp [intOf]; omega
        · obtain rfl : i = 4 := by omega
          have e : phF p q (lims.drop 4) n = (n, 0) := rfl
          rw [e] at hF
          go_wp2_with fail
          exact bodyPost_ret (v := .tuple #[.int .i64 n, .int .i64 0]) (by simp [results, Tryz.results17, go_sem]) rfl ⟨by rw [← hF], lay_ex _ _⟩
    · rw [if_neg h0]
      have e1 : (E != 0) = true := by simpa using h0
      have e2 : (E == 0) = false := beq_eq_false_iff_ne.2 h0
      refine lay_start ?_
      go_enter Tryz.func17, Tryz.ntmps17
      go_wp2_with (first | (go_at_call 42; refine (HI.out _).mono ?_; rintro e w' ⟨rfl, rfl⟩))
      refine region_mixW [0, 0, 0, 0, 0, 0, 0, 0, 0, 0, 1, 1, 0] (by kernel_rfl) (by kernel_rfl) (by kernel_rfl) ?_
      repeat (first | (refine wpM_quiet (fun K hK => ?_); go_simp; first | (refine hK _ ?_; clear hK K) | (apply Exists.intro; refine ⟨fun _ => ?_, hK _ ?_⟩; (first | (go_at_call 18; exact bq (HP.out _) (fun d => ⟨d, rfl⟩)) | (go_at_call 14; exact bq (HA.out _) (fun d => ⟨d, rfl⟩))); clear hK K)) | (refine wpM_special (fun K hK d => ?_); go_simp; refine hK _ _ (by first | exact lay_in w [_] _ | exact lay_in w [_, _] _ | exact lay_in w [_, _, _] _ | exact lay_in w [_, _, _, _] _ | exact lay_in w [_, _, _, _, _] _ | exact lay_in w [_, _, _, _, _, _] _) ?_; clear hK K))
      refine wpM_nil ?_
      intro d
      rw [lay_bw]
      go_wp2_with fail
      exact bodyPost_ret (v := .tuple #[.int .i64 0, .int .i64 E]) (by simp [results, Tryz.results17, go_sem]) rfl ⟨rfl, lay_ex _ _⟩
end Go.Proofs.YthjfadfebhjhbaaGreat

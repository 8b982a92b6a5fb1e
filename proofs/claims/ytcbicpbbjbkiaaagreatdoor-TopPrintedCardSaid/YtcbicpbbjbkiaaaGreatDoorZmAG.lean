/- Contracts and plain laws, several texts in one: TpJ; LgD; LgF; TpK; TpL; TpM; Alm2; TpO; Nm5; TgS; TgB; TgM; AsP; RtP; FxM; AmP; CiC; HvP; AsW1; AsW2 -/
import Derived.Test.YtcbicpbbjbkiaaaGreatDoorProg
import Derived.WalkKit
import Derived.WalkSpells
import Derived.WalkLawsBesides
import Derived.Lib.Hide
import Derived.BigQuiet
import Derived.Test.YtcbicpbbjbkiaaaGreatDoorZmAA
import Derived.Test.YtcbicpbbjbkiaaaGreatDoorZmAC
import Derived.Test.YtcbicpbbjbkiaaaGreatDoorZmAD
import Derived.Test.YtcbicpbbjbkiaaaGreatDoorZmAE
import Derived.Test.YtcbicpbbjbkiaaaGreatDoorZmAF
namespace Go.Proofs.YtcbicpbbjbkiaaaGreatDoor
open Go.RowKit

structure ErV where
 at_ : Int
 val : Int
def eR : RecT ErV := { E := 144, S := 22, k := 2, bytes := 16, enc := fun x => [.int .i64 x.at_, .int .i64 x.val], wf := fun x => (Lit.int .i64 x.at_).wf = true ∧ (Lit.int .i64 x.val).wf = true }
theorem info_er : (Tryz.prog.info? 144).map (fun i => (i.zero.map (fun z => z.cells.size), i.size, i.bytes)) = some (some 2, 2, 16) := by kernel_rfl
theorem eOk : RecOk eR where
 len _ := rfl
 one x u hu := by
  simp only [eR, List.mem_cons, List.not_mem_nil, or_false] at hu
  rcases hu with rfl | rfl <;> rfl
 pos := by decide
 und := Tryz.underlying22
 info := recInfo info_er
 small := by decide
structure InsOk (ix : Int) (l : List ErV) : Prop where
 ix : -60000 ≤ ix ∧ ix ≤ 60000
 len : l.length ≤ 40
 at_ : ∀ (k : Nat) x, l[k]? = some x → 0 ≤ x.at_ ∧ x.at_ ≤ 7800000 ∧ -10000 ≤ x.val ∧ x.val ≤ 10000
 up : ∀ (k : Nat) x y, l[k]? = some x → l[k + 1]? = some y → x.at_ < y.at_
structure InsTo (l : List ErV) (k : Nat) : Prop where
 at_ : ∀ (i : Nat) x, i < k → l[i]? = some x → 0 ≤ x.at_ ∧ x.at_ ≤ 7800000 ∧ -10000 ≤ x.val ∧ x.val ≤ 10000
 up : ∀ (i : Nat) x y, i + 1 < k → l[i]? = some x → l[i + 1]? = some y → x.at_ < y.at_
theorem InsTo.zero (l : List ErV) : InsTo l 0 := ⟨fun _ _ h => absurd h (Nat.not_lt_zero _), fun _ _ _ h => absurd h (Nat.not_lt_zero _)⟩
theorem InsTo.done {l : List ErV} {ix : Int} (h : InsTo l l.length) (hi : -60000 ≤ ix ∧ ix ≤ 60000) (hl : l.length ≤ 40) : InsOk ix l :=
 ⟨hi, hl, fun k x hx => h.at_ k x (List.getElem?_eq_some_iff.1 hx).1 hx, fun k x y hx hy => h.up k x y (List.getElem?_eq_some_iff.1 hy).1 hx hy⟩
theorem InsTo.one {l : List ErV} {x : ErV} (hx : l[0]? = some x) (h : 0 ≤ x.at_ ∧ x.at_ ≤ 7800000 ∧ -10000 ≤ x.val ∧ x.val ≤ 10000) : InsTo l 1 :=
  ⟨fun i y hi hy => by obtain rfl : i = 0 := by omega
                       rw [hx] at hy; cases hy; exact h, fun i _ _ hi => by omega⟩
theorem InsTo.succ {l : List ErV} {x y : ErV} {k : Nat} (hT : InsTo l (k + 1)) (hx : l[k]? = some x) (hy : l[k + 1]? = some y) (h : 0 ≤ y.at_ ∧ y.at_ ≤ 7800000 ∧ -10000 ≤ y.val ∧ y.val ≤ 10000) (hu : x.at_ < y.at_) : InsTo l (k + 1 + 1) := by
 refine ⟨fun i z hi hz => ?_, fun i z z' hi hz hz' => ?_⟩
 ·rcases Nat.lt_or_ge i (k + 1) with g | g
  ·exact hT.at_ i z g hz
  ·obtain rfl : i = k + 1 := by omega
   rw [hy] at hz; cases hz; exact h
 ·rcases Nat.lt_or_ge (i + 1) (k + 1) with g | g
  ·exact hT.up i z z' g hz hz'
  ·obtain rfl : i = k := by omega
   rw [hx] at hz; rw [hy] at hz'; cases hz; cases hz'; exact hu
theorem inst_within (n m : Int) (w : World) (hm : 0 ≤ m ∧ m ≤ 9000000000000000000) :
  Calls Tryz.prog 131 #[.int .i64 n, .int .i64 m] w fun e w' => e = .returned (.bool (decide (-m ≤ n ∧ n ≤ m))) ∧ w' = w := by
 have h1 : IntKind.i64.wrap (-m) = -m := IntWalk.i64_in _ (by omega)
 obtain ⟨m0, m1⟩ := hm
 go_enter Tryz.func131, Tryz.ntmps131
 go_wp2
 all_goals go_ret
 all_goals exact ⟨ret_bool (by rw [Bool.eq_iff_iff]; simp; try omega), rfl⟩
set_option maxHeartbeats 2000000 in
theorem inst_Valid (ix : Int) (v : Value) (l : List ErV) (w : World) (hv : SlG eR w v l) :
  Calls Tryz.prog 66 #[.agg #[.int .i64 ix, v]] w fun e w' => (∃ b : Bool, e = .returned (.bool b) ∧ (b = true → InsOk ix l)) ∧ ∃ d, w' = bw w d := by
 by_cases hz : l = []
 ·subst hz
  obtain ⟨a, c, rfl⟩ := hv.form
  have HI : Hid (-60000 ≤ ix ∧ ix ≤ 60000 → InsOk ix []) := Lib.hid (fun h => ⟨h, by decide, fun k x hx => by simp at hx, fun k x y hx => by simp at hx⟩)
  refine lay_start ?_
  go_enter Tryz.func66, Tryz.ntmps66
  go_wp2_with (go_at_call 131; refine (inst_within _ _ _ (by decide)).mono ?_; rintro e w' ⟨rfl, rfl⟩)
  ·refine wp_loop_rounds 1 ?_
   rw [rounds_succ]
   go_wp2_with fail
   exact bodyPost_ret (v := .bool true) (by simp [results, Tryz.results66, go_sem]) rfl ⟨⟨true, rfl, fun _ => HI.out (by assumption)⟩, lay_ex _ _⟩
  ·exact bodyPost_ret (v := .bool false) (by simp [results, Tryz.results66, go_sem]) rfl ⟨⟨false, rfl, fun h => by cases h⟩, lay_ex _ _⟩
 ·obtain ⟨b, o, c, rfl, hcc, hb, hr⟩ := hv.open (List.length_pos_iff.2 hz)
  obtain ⟨q, hq⟩ : ∃ q, l.length = q := ⟨_, rfl⟩
  have HQ := Lib.hid hq
  have HR := Lib.hid hr
  have HW := Lib.hid hv.wf
  rw [hq] at hcc ⊢
  clear hr hv hz hq
  refine lay_start ?_
  go_enter Tryz.func66, Tryz.ntmps66
  go_wp2_with (go_at_call 131; refine (inst_within _ _ _ (by decide)).mono ?_; rintro e w' ⟨rfl, rfl⟩)
  ·exact bodyPost_ret (v := .bool false) (by simp [results, Tryz.results66, go_sem]) rfl ⟨⟨false, rfl, fun h => by cases h⟩, lay_ex _ _⟩
  ·have hix : -60000 ≤ ix ∧ ix ≤ 60000 := by assumption
   have hq40 : (q : Int) ≤ 40 := by assumption
   have HIX := Lib.hid hix
   go_loopw [19] (fun v19 wr => ∃ (k : Nat) (d0 : Ext), k ≤ q ∧ v19 = .int .i64 (k : Int) ∧ wr = lay w [.inr d0, .inl (.cells #[.int .i64 ix, .slice (some ⟨b, o, none⟩) q c] 24 (0, 0))] ∧ InsTo l k) (fun v19 _ => q - (intOf v19).toNat)
   case atStart => exact ⟨0, noExt _, Nat.zero_le _, rfl, (bw_noExt _).symm, InsTo.zero _⟩
   case round =>
    obtain ⟨k, d0, hk, rfl, rfl, hT⟩ := hrel
    have HT := Lib.hid hT
    clear hT
    by_cases hlt : k < q
    ·obtain ⟨y, hy⟩ : ∃ t, l[k]? = some t := ⟨_, List.getElem?_eq_getElem (by rw [HQ.out]; exact hlt)⟩
     have c0 := HR.out k y hy 0 _ rfl
     have c1 := HR.out k y hy 1 _ rfl
     obtain ⟨w0, w1⟩ := HW.out y (List.mem_of_getElem? hy)
     have HY := Lib.hid hy
     clear hy
     obtain ⟨ya, yv⟩ := y
     dsimp only at c0 c1 w0 w1
     rw [show o + (k * eR.k + 0) = o + k * 2 from rfl] at c0
     rw [show o + (k * eR.k + 1) = o + k * 2 + 1 from rfl] at c1
     by_cases hyv : -10000 ≤ yv ∧ yv ≤ 10000
     ·have HI := Lib.hid (fun W => inst_within yv 10000 W (by decide))
      rw [decide_eq_true hyv] at HI
      by_cases hya : 0 ≤ ya ∧ ya ≤ 7800000
      ·rcases Nat.eq_zero_or_pos k with hk0 | hk0
       ·subst hk0
        simp only [Nat.zero_mul, Nat.add_zero] at c0 c1
        have HP : Hid (InsTo l 1) := Lib.hid (InsTo.one HY.out ⟨hya.1, hya.2, hyv.1, hyv.2⟩)
        obtain ⟨ha1, ha2⟩ := hya
        clear hyv
        have ha3 : ¬ ya < 0 := by omega
        have ha4 : ¬ 7800000 < ya := by omega
        go_wp2_with (go_at_call 131; refine (HI.out _).mono ?_; rintro e w' ⟨rfl, rfl⟩)
        exact ⟨⟨1, _, by omega, rfl, Classical.choose_spec (lay_fold w [_, _] _), HP.out⟩, by simp [intOf]; omega⟩
       ·obtain ⟨j, hj⟩ : ∃ j, k = j + 1 := ⟨k - 1, by omega⟩
        obtain ⟨x, hx⟩ : ∃ t, l[j]? = some t := ⟨_, List.getElem?_eq_getElem (by rw [HQ.out]; omega)⟩
        have d0' := HR.out j x hx 0 _ rfl
        have d1' := HR.out j x hx 1 _ rfl
        rw [show o + (j * eR.k + 0) = o + j * 2 from rfl] at d0'
        rw [show o + (j * eR.k + 1) = o + j * 2 + 1 from rfl] at d1'
        have HX := Lib.hid hx
        clear hx
        obtain ⟨xa, xv⟩ := x
        dsimp only at d0' d1'
        obtain ⟨r1, r2, r3, r4⟩ := HT.out.at_ j _ (by omega) HX.out
        dsimp only at r1 r2 r3 r4
        have HP : Hid (xa < ya → InsTo l (k + 1)) := Lib.hid (fun h2 => by subst hj; exact InsTo.succ HT.out HX.out HY.out ⟨hya.1, hya.2, hyv.1, hyv.2⟩ h2)
        have e1 : IntKind.i64.wrap ((k : Int) - 1) = (j : Int) := by rw [IntWalk.i64_in _ (by omega)]; omega
        have e2 : j < q := by omega
        have e3 : ¬ (k : Int) = 0 := by omega
        have e4 : (k : Int) < (q : Int) := by omega
        have e5 : IntKind.i64.wrap (ya - xa) = ya - xa := IntWalk.i64_in _ (by omega)
        have e6 : IntKind.i64.wrap (yv - xv) = yv - xv := IntWalk.i64_in _ (by omega)
        have e7 : IntKind.i64.wrap (10 * (yv - xv)) = 10 * (yv - xv) := IntWalk.i64_in _ (by omega)
        have e5' : wrap64 (ya - xa) = ya - xa := by unfold wrap64; omega
        have e6' : wrap64 (yv - xv) = yv - xv := by unfold wrap64; omega
        have e7' : wrap64 (10 * (yv - xv)) = 10 * (yv - xv) := by unfold wrap64; omega
        have e1' : wrap64 ((k : Int) - 1) = (j : Int) := by unfold wrap64; omega
        have HD : Hid (∀ W, 0 < ya - xa → Calls Tryz.prog 131 #[.int .i64 (10 * (yv - xv)), .int .i64 (ya - xa)] W fun e w' => e = .returned (.bool (decide (-(ya - xa) ≤ 10 * (yv - xv) ∧ 10 * (yv - xv) ≤ ya - xa))) ∧ w' = W) := Lib.hid (fun W h => inst_within _ _ W (by omega))
        obtain ⟨ha1, ha2⟩ := hya
        have ha3 : ¬ ya < 0 := by omega
        have ha4 : ¬ 7800000 < ya := by omega
        obtain ⟨BQ, hBQ⟩ : ∃ BQ, BQ = decide (-(ya - xa) ≤ 10 * (yv - xv) ∧ 10 * (yv - xv) ≤ ya - xa) := ⟨_, rfl⟩
        rw [← hBQ] at HD
        obtain ⟨YA, hYA⟩ : ∃ YA, YA = ya - xa := ⟨_, rfl⟩
        have HYA := Lib.hid hYA
        rw [show ya - xa = YA from hYA.symm] at HD
        replace e5 : IntKind.i64.wrap (ya - xa) = YA := by rw [e5, hYA]
        replace e5' : wrap64 (ya - xa) = YA := by rw [e5', hYA]
        clear hyv r1 r2 r3 r4 hk0 hBQ hYA
        have HJ := Lib.hid hj
        clear hj
        go_wp2_with (go_at_call 131; refine (HI.out _).mono ?_; rintro e w' ⟨rfl, rfl⟩)
        by_cases hd : 0 < YA
        ·have HG : Hid (∀ W, Calls Tryz.prog 131 #[.int .i64 (10 * (yv - xv)), .int .i64 YA] W fun e w' => e = .returned (.bool BQ) ∧ ∃ d, w' = bw W d) := Lib.hid (fun W => (HD.out W hd).mono (fun e w' h => ⟨h.1, noExt _, h.2.trans (bw_noExt _).symm⟩))
         have HP2 := Lib.hid (HP.out (by have := HYA.out; omega))
         have hd2 : ¬ YA ≤ 0 := by omega
         have hd3 : decide (YA ≤ 0) = false := decide_eq_false hd2
         clear HD
         refine region_bw (by kernel_rfl) (by kernel_rfl) ?_
         repeat (go_big_quiet_step ((first | fail)))
         refine wpQuiet_nil ?_
         rintro w' ⟨d, rfl⟩
         rw [lay_bw]
         go_wp2_with fail
         refine region_bw (by kernel_rfl) (by kernel_rfl) ?_
         repeat (go_big_quiet_step ((first | (go_at_call 131; first | ((with_reducible refine bq (HG.out _) ?_); exact (fun d => ⟨d, rfl⟩)) | ((with_reducible refine bq (HG.out _) ?_); exact (fun d => lay_join _ _ _ d))))))
         refine wpQuiet_nil ?_
         rintro w' ⟨d, rfl⟩
         rw [lay_bw]
         cases BQ
         ·go_wp2_with fail
          (refine bodyPost_ret (v := .bool false) (by simp [results, Tryz.results66, go_sem]) rfl ⟨?_, lay_ex _ _⟩; first | exact .inl rfl | exact ⟨false, rfl, fun h => by cases h⟩)
         ·go_wp2_with fail
          exact ⟨⟨k + 1, _, by omega, by go_num, Classical.choose_spec (lay_fold w [_, _, _, _] _), HP2.out⟩, by simp [intOf]; omega⟩
        ·have hd2 : YA ≤ 0 := by omega
         clear HD
         refine region_bw (by kernel_rfl) (by kernel_rfl) ?_
         repeat (go_big_quiet_step ((first | fail)))
         refine wpQuiet_nil ?_
         rintro w' ⟨d, rfl⟩
         rw [lay_bw]
         go_wp2_with fail
         refine region_bw (by kernel_rfl) (by kernel_rfl) ?_
         repeat (go_big_quiet_step ((first | fail)))
         refine wpQuiet_nil ?_
         rintro w' ⟨d, rfl⟩
         rw [lay_bw]
         go_wp2_with fail
         (refine bodyPost_ret (v := .bool false) (by simp [results, Tryz.results66, go_sem]) rfl ⟨?_, lay_ex _ _⟩; first | exact .inl rfl | exact ⟨false, rfl, fun h => by cases h⟩)
      ·have HN : Hid (¬ (0 ≤ ya ∧ ya ≤ 7800000)) := Lib.hid hya
       clear hyv hya
       go_wp2_with (go_at_call 131; refine (HI.out _).mono ?_; rintro e w' ⟨rfl, rfl⟩)
       all_goals first
        | (refine bodyPost_ret (v := .bool false) (by simp [results, Tryz.results66, go_sem]) rfl ⟨?_, lay_ex _ _⟩; first | exact .inl rfl | exact ⟨false, rfl, fun h => by cases h⟩)
        | (exfalso; have := HN.out; omega)
     ·have HI := Lib.hid (fun W => inst_within yv 10000 W (by decide))
      rw [decide_eq_false hyv] at HI
      clear hyv
      go_wp2_with (go_at_call 131; refine (HI.out _).mono ?_; rintro e w' ⟨rfl, rfl⟩)
      all_goals (refine bodyPost_ret (v := .bool false) (by simp [results, Tryz.results66, go_sem]) rfl ⟨?_, lay_ex _ _⟩; first | exact .inl rfl | exact ⟨false, rfl, fun h => by cases h⟩)
    ·obtain rfl : k = q := by omega
     have HF := Lib.hid (InsTo.done (l := l) (ix := ix) (by rw [HQ.out]; exact HT.out) HIX.out (by have := HQ.out; omega))
     go_wp2_with fail
     exact bodyPost_ret (v := .bool true) (by simp [results, Tryz.results66, go_sem]) rfl ⟨⟨true, rfl, fun _ => HF.out⟩, lay_ex _ _⟩
  ·exact bodyPost_ret (v := .bool false) (by simp [results, Tryz.results66, go_sem]) rfl ⟨⟨false, rfl, fun h => by cases h⟩, lay_ex _ _⟩
end Go.Proofs.YtcbicpbbjbkiaaaGreatDoor
namespace Go.Proofs.YtcbicpbbjbkiaaaGreatDoor
set_option maxHeartbeats 1000000
set_option maxRecDepth 100000
open Go.RowKit

theorem lg_inst0 (w : World) : Calls Tryz.prog 66 #[.agg #[.int .i64 0, .slice none 0 0]] w fun e w' => e = .returned (.bool true) ∧ ∃ d, w' = bw w d := by
 refine lay_start ?_
 go_enter Tryz.func66, Tryz.ntmps66
 go_wp2_with (go_at_call 131; refine (inst_within _ _ _ (by decide)).mono ?_; rintro e w' ⟨rfl, rfl⟩)
 refine wp_loop_rounds 1 ?_
 rw [rounds_succ]
 go_wp2_with fail
 exact bodyPost_ret (v := .bool true) (by simp [results, Tryz.results66, go_sem]) rfl ⟨rfl, lay_ex _ _⟩
@[go_sem] theorem eq_nil0 (W : World) : (binOp .eql 22 (.slice none 0 0) (.slice none 0 0)).run Tryz.prog W = .ok (.bool true) W := by kernel_rfl
theorem lg_clone0 (w : World) : Calls Tryz.prog 67 #[.slice none 0 0] w fun e w' => e = .returned (.slice none 0 0) ∧ w' = w := by
 go_enter Tryz.func67, Tryz.ntmps67
 go_wp2_with fail
 exact bodyPost_ret (v := .slice none 0 0) (by simp [results, Tryz.results67, go_sem]) rfl ⟨rfl, rfl⟩
theorem lg_New0 (b : Nat) (w : World) : Calls Tryz.prog 15 #[.pointer (some ⟨b, 0, none⟩), .agg #[.int .i64 0, .slice none 0 0]] w fun e w' => ∃ g, e = .returned (.tuple #[.pointer (some ⟨g, 0, none⟩), .int .i64 0]) ∧ w.heap.size ≤ g ∧ w'.heap[g]? = some (.cells #[.pointer (some ⟨b, 0, none⟩), .int .i64 0, .slice none 0 0, .slice none 0 0] 146 (0, 0)) ∧ ∃ d, w' = bw w d := by
 have HI := Lib.hid (fun W => lg_inst0 W)
 have HC := Lib.hid (fun W => lg_clone0 W)
 refine lay_start ?_
 go_enter Tryz.func15, Tryz.ntmps15
 go_wp2_with (first | (go_at_call 66; refine (HI.out _).mono ?_; rintro e w' ⟨rfl, d1, rfl⟩; rw [lay_bw]) | (go_at_call 67; refine (HC.out _).mono ?_; rintro e w' ⟨rfl, rfl⟩))
 refine bodyPost_ret (v := .tuple #[.pointer (some ⟨_, 0, none⟩), .int .i64 0]) (by simp [results, Tryz.results15, go_sem]; rfl) rfl ⟨_, rfl, ?_, ?_, lay_ex _ _⟩
 ·unfold posn; omega
 ·exact lay_get w _ 0 _ rfl
end Go.Proofs.YtcbicpbbjbkiaaaGreatDoor
namespace Go.Proofs.YtcbicpbbjbkiaaaGreatDoor
open Go.RowKit

structure RcC where
 cs : Array Value
 sz : cs.size = 24
 one : cs.toList.all (fun v => v.oneCell') = true
def rR : RecT RcC := { E := 78, S := 87, k := 24, bytes := 224, enc := fun x => x.cs.toList, wf := fun _ => True }
theorem info_rc : (Tryz.prog.info? 78).map (fun i => (i.zero.map (fun z => z.cells.size), i.size, i.bytes)) = some (some 24, 24, 224) := by kernel_rfl
theorem rOk : RecOk rR where
 len x := by show x.cs.toList.length = 24; rw [Array.length_toList]; exact x.sz
 one x u hu := List.all_eq_true.1 x.one u hu
 pos := by decide
 und := Tryz.underlying87
 info := recInfo info_rc
 small := by decide
theorem ld_row {W : World} {b o n c : Nat} {l : List RcC} (h : SlG rR W (.slice (some ⟨b, o, none⟩) n c) l) {i : Nat} {x : RcC} (hi : l[i]? = some x) :
  (ldRec (.pointer (some ⟨b, o + i * 24, none⟩))).run Tryz.prog W = .ok (.agg x.cs) W := by
 have hld := run_loadCells_list (P := Tryz.prog) W ⟨b, o + i * 24, none⟩ x.cs.toList (fun j v hj => by
  have hadd : (⟨b, o + i * 24, none⟩ : Addr).add j = ⟨b, o + i * 24 + j, none⟩ := by unfold Addr.add; split <;> simp_all
  rw [hadd]
  have := slG_get h hi (j := j) (u := v) hj
  rw [show o + (i * rR.k + j) = o + i * 24 + j from by show o + (i * 24 + j) = _; omega] at this
  exact this)
 unfold ldRec Instr.loadAt loadVar
 rw [Array.length_toList, x.sz] at hld
 simp only [Instr.sureAddr, Sem.run_bind, Sem.run_pure, Result.andThen_ok, agg_rec, if_true, size_rec, hld, Array.toArray_toList]
def notX : RcC := ⟨notC ⟨#[120]⟩, rfl, by unfold notC; simp [go_sem]⟩
structure LogP (W : World) (g b : Nat) (v : Value) (l : List RcC) : Prop where
 blk : W.heap[g]? = some (.cells #[.pointer (some ⟨b, 0, none⟩), .int .i64 0, .slice none 0 0, v] 146 (0, 0))
 row : SlG rR W v l
theorem LogP.bw {W : World} {g b : Nat} {v : Value} {l : List RcC} (h : LogP W g b v l) (d : Ext) : LogP (bw W d) g b v l := ⟨(bw_get W d g (Array.getElem?_eq_some_iff.1 h.blk).1).trans h.blk, h.row.bw d⟩
theorem LogP.lt {W : World} {g b : Nat} {v : Value} {l : List RcC} (h : LogP W g b v l) : g < W.heap.size := (Array.getElem?_eq_some_iff.1 h.blk).1
theorem LogP.c0 {W : World} {g b : Nat} {v : Value} {l : List RcC} (h : LogP W g b v l) : W.cell? ⟨g, 0, none⟩ = some (.pointer (some ⟨b, 0, none⟩)) := by unfold World.cell?; dsimp only; rw [h.blk]; rfl
theorem LogP.c3 {W : World} {g b : Nat} {v : Value} {l : List RcC} (h : LogP W g b v l) : W.cell? ⟨g, 3, none⟩ = some v := by unfold World.cell?; dsimp only; rw [h.blk]; rfl
theorem LogP.fz {W : World} {g b : Nat} {v : Value} {l : List RcC} (h : LogP W g b v l) (i : Nat) : W.frozen? ⟨g, i, none⟩ = false := by unfold World.frozen?; dsimp only; rw [h.blk]; rfl
end Go.Proofs.YtcbicpbbjbkiaaaGreatDoor
namespace Go.Proofs.YtcbicpbbjbkiaaaGreatDoor
set_option maxHeartbeats 1000000
open Go.RowKit

theorem inst_arc1 (xa xv n : Int) (w : World) (h1 : -9000000000 ≤ xa ∧ xa ≤ 9000000000) (h2 : -9000000000 ≤ n ∧ n ≤ 9000000000) :
  Calls Tryz.prog 160 #[.agg #[.int .i64 xa, .int .i64 xv], .int .i64 n] w fun e w' => e = .returned (.int .i64 (xa - n)) ∧ ∃ d, w' = bw w d := by
 have e1 : IntKind.i64.wrap (xa - n) = xa - n := IntWalk.i64_in _ (by omega)
 refine lay_start ?_
 go_enter Tryz.func160, Tryz.ntmps160
 go_wp2_with fail
 exact bodyPost_ret (v := .int .i64 (xa - n)) (by simp [results, Tryz.results160, go_sem]) rfl ⟨rfl, lay_ex _ _⟩
def SrcP (w : World) (m : Nat) (e : Ending) (w' : World) : Prop := ∃ (i : Nat) (q : Bool), i ≤ m ∧ (q = true → i < m) ∧ e = .returned (.tuple #[.int .i64 i, .bool q]) ∧ ∃ d, w' = bw w d
theorem inst_search (v : Value) (l : List ErV) (n : Int) (w : World) (hv : SlG eR w v l) (h2 : -9000000000 ≤ n ∧ n ≤ 9000000000) (hl : l.length ≤ 40) (ha : ∀ (k : Nat) x, l[k]? = some x → 0 ≤ x.at_ ∧ x.at_ ≤ 7800000 ∧ -10000 ≤ x.val ∧ x.val ≤ 10000) :
  Calls Tryz.prog 159 #[v, .int .i64 n, .func (.func 160) #[] #[]] w (SrcP w l.length) := by
 by_cases hz : l = []
 ·subst hz
  obtain ⟨a, c, rfl⟩ := hv.form
  clear hv ha
  go_enter Tryz.func159, Tryz.ntmps159
  go_wp2_with fail
  refine wp_loop_rounds 1 ?_
  rw [rounds_succ]
  go_wp2_with fail
  exact bodyPost_ret (v := .tuple #[.int .i64 0, .bool false]) (by simp [results, Tryz.results159, go_sem]) rfl ⟨0, false, Nat.le_refl _, by simp, rfl, noExt _, (bw_noExt _).symm⟩
 ·obtain ⟨b, o, c, rfl, hcc, hb, hr⟩ := hv.open (List.length_pos_iff.2 hz)
  obtain ⟨m, hm⟩ : ∃ m, l.length = m := ⟨_, rfl⟩
  have HQ := Lib.hid hm
  have HR := Lib.hid hr
  have HA := Lib.hid ha
  rw [hm] at hcc hl ⊢
  have hm0 : 0 < m := by rw [← hm]; exact List.length_pos_iff.2 hz
  clear hr hv hz hm ha
  go_enter Tryz.func159, Tryz.ntmps159
  go_wp2_with fail
  go_loopw [9, 10] (fun vi vj wr => ∃ (i j : Nat) (d : Ext), i ≤ j ∧ j ≤ m ∧ vi = .int .i64 i ∧ vj = .int .i64 j ∧ wr = bw w d) (fun vi vj _ => (intOf vj - intOf vi).toNat)
  case atStart => exact ⟨0, m, ⟨#[], w.drawn⟩, by omega, by omega, rfl, rfl, by simp [bw]⟩
  case round =>
   obtain ⟨i, j, d, hij, hjm, rfl, rfl, rfl⟩ := hrel
   by_cases hlt : i < j
   ·obtain ⟨x, hx⟩ : ∃ t, l[(i + j) / 2]? = some t := ⟨_, List.getElem?_eq_getElem (by rw [HQ.out]; omega)⟩
    have e1 := (bw_cell w d b (o + (i + j) / 2 * 2) hb).trans (HR.out _ x hx 0 _ rfl)
    have e2 := (bw_cell w d b (o + (i + j) / 2 * 2 + 1) hb).trans (HR.out _ x hx 1 _ rfl)
    obtain ⟨r1, r2, r3, r4⟩ := HA.out _ x hx
    obtain ⟨xa, xv⟩ := x
    dsimp only at e1 e2 r1 r2 r3 r4
    have HC := Lib.hid (fun W => inst_arc1 xa xv n W (by omega) h2)
    clear hx r1 r2 r3 r4
    have hm1 : (i + j) / 2 < m := by omega
    go_wp2_with (go_at_call 160; refine (HC.out _).mono ?_; rintro e w' ⟨rfl, d, rfl⟩)
    ·go_roundw
     case rel => exact ⟨(i + j) / 2 + 1, j, _, by omega, hjm, by go_num, rfl, rfl⟩
     case measure => simp [intOf]; omega
    ·go_roundw
     case rel => exact ⟨i, (i + j) / 2, _, by omega, by omega, rfl, by go_num, rfl⟩
     case measure => simp [intOf]; omega
   ·obtain rfl : i = j := by omega
    by_cases him : i < m
    ·obtain ⟨x, hx⟩ : ∃ t, l[i]? = some t := ⟨_, List.getElem?_eq_getElem (by rw [HQ.out]; omega)⟩
     have e1 := (bw_cell w d b (o + i * 2) hb).trans (HR.out _ x hx 0 _ rfl)
     have e2 := (bw_cell w d b (o + i * 2 + 1) hb).trans (HR.out _ x hx 1 _ rfl)
     obtain ⟨r1, r2, r3, r4⟩ := HA.out _ x hx
     obtain ⟨xa, xv⟩ := x
     dsimp only at e1 e2 r1 r2 r3 r4
     have HC := Lib.hid (fun W => inst_arc1 xa xv n W (by omega) h2)
     clear hx r1 r2 r3 r4
     go_wp2_with (go_at_call 160; refine (HC.out _).mono ?_; rintro e w' ⟨rfl, d, rfl⟩)
     exact bodyPost_ret (v := .tuple #[.int .i64 (i : Int), .bool (xa - n == 0)]) (by simp [results, Tryz.results159, go_sem]) rfl ⟨i, _, hjm, fun _ => him, rfl, _, rfl⟩
    ·obtain rfl : i = m := by omega
     go_wp2
     exact bodyPost_ret (v := .tuple #[.int .i64 (i : Int), .bool false]) (by simp [results, Tryz.results159, go_sem]) rfl ⟨i, false, hjm, by simp, rfl, _, rfl⟩
set_option maxHeartbeats 2000000
open Go.RowKit

theorem inst_floor (a b : Int) (w : World) (hb : 1 ≤ b) (h1 : -9223372036854775807 ≤ a) (h2 : a ≤ 9223372036854775807) :
  Calls Tryz.prog 161 #[.int .i64 a, .int .i64 b] w fun e w' => e = .returned (.int .i64 (a / b)) ∧ ∃ d, w' = bw w d := by
 refine lay_start ?_
 go_enter Tryz.func161, Tryz.ntmps161
 go_wp2
 ·go_ret
  refine ⟨ret_int ?_, lay_ex _ _⟩
  rw [IntWalk.wrap64_in]
  ·exact floor_neg hb ‹_›
  ·rw [floor_neg hb ‹_›]; have := ediv_bd hb 9223372036854775807 (by decide) h1 h2; omega
 ·go_ret
  exact ⟨ret_int (floor_pos hb ‹_›), lay_ex _ _⟩
theorem tp_prod {x k X K : Int} (hX : -X ≤ x ∧ x ≤ X) (hK : -K ≤ k ∧ k ≤ K) : -(X * K) ≤ x * k ∧ x * k ≤ X * K := by
 have h0 : 0 ≤ X := by omega
 have hk : 0 ≤ K := by omega
 have e1 : 0 ≤ (X - x) * (K + k) := Int.mul_nonneg (by omega) (by omega)
 have e2 : 0 ≤ (X + x) * (K - k) := Int.mul_nonneg (by omega) (by omega)
 have e3 : 0 ≤ (X - x) * (K - k) := Int.mul_nonneg (by omega) (by omega)
 have e4 : 0 ≤ (X + x) * (K + k) := Int.mul_nonneg (by omega) (by omega)
 rw [Int.sub_mul, Int.mul_add, Int.mul_add] at e1
 rw [Int.add_mul, Int.mul_sub, Int.mul_sub] at e2
 rw [Int.sub_mul, Int.mul_sub, Int.mul_sub] at e3
 rw [Int.add_mul, Int.mul_add, Int.mul_add] at e4
 omega
def ArcIn (B : Int) (w : World) (e : Ending) (w' : World) : Prop := (∃ x y : Int, (-B ≤ x ∧ x ≤ B) ∧ (-B ≤ y ∧ y ≤ B) ∧ e = .returned ((.agg #[.int .i64 (x), .int .i64 (y)]))) ∧ ∃ d, w' = bw w d
theorem arc_num {xa xv ya yv n : Int} (hx : 0 ≤ xa ∧ xa ≤ 7800000 ∧ -10000 ≤ xv ∧ xv ≤ 10000) (hy : 0 ≤ ya ∧ ya ≤ 7800000 ∧ -10000 ≤ yv ∧ yv ≤ 10000) (hu : xa < ya) (hn : -60000 ≤ n ∧ n ≤ 7800000) :
  wrap64 (ya - xa) = ya - xa ∧ 1 ≤ ya - xa ∧ wrap64 (xv * (ya - xa)) = xv * (ya - xa) ∧ wrap64 (yv - xv) = yv - xv ∧ wrap64 (n - xa) = n - xa ∧ wrap64 ((yv - xv) * (n - xa)) = (yv - xv) * (n - xa) ∧ wrap64 (xv * (ya - xa) + (yv - xv) * (n - xa)) = xv * (ya - xa) + (yv - xv) * (n - xa) ∧ (-240000000000 ≤ xv * (ya - xa) + (yv - xv) * (n - xa) ∧ xv * (ya - xa) + (yv - xv) * (n - xa) ≤ 240000000000) := by
 have p1 := tp_prod (x := xv) (k := ya - xa) (X := 10000) (K := 7800000) (by omega) (by omega)
 have p2 := tp_prod (x := yv - xv) (k := n - xa) (X := 20000) (K := 7860000) (by omega) (by omega)
 generalize xv * (ya - xa) = P at *
 generalize (yv - xv) * (n - xa) = Q at *
 refine ⟨?_, ?_, ?_, ?_, ?_, ?_, ?_, ?_⟩
 all_goals first | (unfold wrap64; omega) | omega
set_option maxRecDepth 100000 in
theorem inst_arc (v : Value) (l : List ErV) (ix n : Int) (w : World) (hv : SlG eR w v l) (hI : InsOk ix l) (hn : -60000 ≤ n ∧ n ≤ 7800000) :
  Calls Tryz.prog 88 #[v, .int .i64 n] w (ArcIn 240000000000 w) := by
 have HS := Lib.hid (fun L => inst_search v l n (lay w L) (hv.lay L) (by omega) hI.len hI.at_)
 by_cases hz : l = []
 ·subst hz
  obtain ⟨a, c, rfl⟩ := hv.form
  clear hv hI
  refine lay_start ?_
  go_enter Tryz.func88, Tryz.ntmps88
  go_wp2_with fail
  refine (HS.out _).mono ?_
  rintro e w' ⟨i, q, hi, hq, rfl, d, rfl⟩
  rw [lay_bw]
  go_wp2_with fail
  exact bodyPost_ret (v := (.agg #[.int .i64 (0), .int .i64 (0)])) (by simp [results, Tryz.results88, go_sem]) rfl ⟨⟨0, 0, by decide, by decide, rfl⟩, lay_ex _ _⟩
 ·obtain ⟨b, o, c, rfl, hcc, hb, hr⟩ := hv.open (List.length_pos_iff.2 hz)
  obtain ⟨m, hm⟩ : ∃ m, l.length = m := ⟨_, rfl⟩
  have HQ := Lib.hid hm
  have HR := Lib.hid hr
  have HA := Lib.hid hI.at_
  have HU := Lib.hid hI.up
  have hl := hI.len
  rw [hm] at hcc hl HS
  have hm0 : 0 < m := by rw [← hm]; exact List.length_pos_iff.2 hz
  rw [hm]
  clear hr hv hz hm hI
  refine lay_start ?_
  go_enter Tryz.func88, Tryz.ntmps88
  go_wp2_with fail
  refine (HS.out _).mono ?_
  rintro e w' ⟨i, q, hi, hq, rfl, d, rfl⟩
  rw [lay_bw]
  have hm1 : ¬ (m : Int) = 0 := by omega
  clear HS
  by_cases h1 : q = true ∨ i = 0
  ·have him : i < m := by rcases h1 with h | h; exact hq h; omega
   obtain ⟨x, hx⟩ : ∃ t, l[i]? = some t := ⟨_, List.getElem?_eq_getElem (by rw [HQ.out]; omega)⟩
   have c0 := HR.out _ x hx 0 _ rfl
   have c1 := HR.out _ x hx 1 _ rfl
   have hr := HA.out _ x hx
   clear hx
   obtain ⟨xa, xv⟩ := x
   dsimp only at c0 c1 hr
   rw [show o + (i * eR.k + 0) = o + i * 2 from rfl] at c0
   rw [show o + (i * eR.k + 1) = o + i * 2 + 1 from rfl] at c1
   obtain ⟨hr1, hr2, hr3, hr4⟩ := hr
   clear HR HA HU HQ hq
   cases q
   ·obtain rfl : i = 0 := by rcases h1 with h | h; cases h; exact h
    simp only [Nat.zero_mul, Nat.add_zero] at c0 c1
    clear h1
    go_wp2_with fail
    refine region_bw_tail 11 (by kernel_rfl) (by kernel_rfl) ?_
    simp only [List.take_succ_cons, List.take_zero, List.drop_succ_cons, List.drop_zero]
    repeat (go_big_quiet_step ((first | fail)))
    refine wpQuiet_nil ?_
    rintro w' ⟨d, rfl⟩
    rw [lay_bw]
    go_wp2_with fail
    exact bodyPost_ret (v := (.agg #[.int .i64 (xv), .int .i64 (xv)])) (by simp [results, Tryz.results88, go_sem]) rfl ⟨⟨xv, xv, by omega, by omega, rfl⟩, lay_ex _ _⟩
   ·clear h1
    go_wp2_with fail
    refine region_bw_tail 11 (by kernel_rfl) (by kernel_rfl) ?_
    simp only [List.take_succ_cons, List.take_zero, List.drop_succ_cons, List.drop_zero]
    repeat (go_big_quiet_step ((first | fail)))
    refine wpQuiet_nil ?_
    rintro w' ⟨d, rfl⟩
    rw [lay_bw]
    go_wp2_with fail
    exact bodyPost_ret (v := (.agg #[.int .i64 (xv), .int .i64 (xv)])) (by simp [results, Tryz.results88, go_sem]) rfl ⟨⟨xv, xv, by omega, by omega, rfl⟩, lay_ex _ _⟩
  ·have hi0 : 0 < i := Nat.pos_of_ne_zero (fun h => h1 (.inr h))
   obtain rfl : q = false := by cases q; rfl; exact absurd (.inl rfl) h1
   obtain ⟨j, hj⟩ : ∃ j, i = j + 1 := ⟨i - 1, by omega⟩
   obtain ⟨x, hx⟩ : ∃ t, l[j]? = some t := ⟨_, List.getElem?_eq_getElem (by rw [HQ.out]; omega)⟩
   have c0 := HR.out _ x hx 0 _ rfl
   have c1 := HR.out _ x hx 1 _ rfl
   have hr := HA.out _ x hx
   have HXJ := Lib.hid hx
   clear hx
   obtain ⟨xa, xv⟩ := x
   dsimp only at c0 c1 hr
   rw [show o + (j * eR.k + 0) = o + j * 2 from rfl] at c0
   rw [show o + (j * eR.k + 1) = o + j * 2 + 1 from rfl] at c1
   have e1 : wrap64 ((i : Int) - 1) = (j : Int) := by unfold wrap64; omega
   have e2 : IntKind.i64.wrap ((i : Int) - 1) = (j : Int) := by rw [IntWalk.i64_in _ (by omega)]; omega
   have e3 : ¬ (i : Int) = 0 := by omega
   have e4 : j < m := by omega
   clear h1 hq hi0
   by_cases him : i = m
   ·subst him
    obtain ⟨hr1, hr2, hr3, hr4⟩ := hr
    have HJ := Lib.hid hj
    clear HR HA HU HQ hj
    go_wp2_with fail
    refine region_bw_tail 13 (by kernel_rfl) (by kernel_rfl) ?_
    simp only [List.take_succ_cons, List.take_zero, List.drop_succ_cons, List.drop_zero]
    repeat (go_big_quiet_step ((first | fail)))
    refine wpQuiet_nil ?_
    rintro w' ⟨d, rfl⟩
    rw [lay_bw]
    go_wp2_with fail
    exact bodyPost_ret (v := (.agg #[.int .i64 (xv), .int .i64 (xv)])) (by simp [results, Tryz.results88, go_sem]) rfl ⟨⟨xv, xv, by omega, by omega, rfl⟩, lay_ex _ _⟩
   ·have him2 : i < m := by omega
    have e5 : ¬ (i : Int) = (m : Int) := by omega
    obtain ⟨y, hy⟩ : ∃ t, l[i]? = some t := ⟨_, List.getElem?_eq_getElem (by rw [HQ.out]; omega)⟩
    have d0 := HR.out _ y hy 0 _ rfl
    have d1 := HR.out _ y hy 1 _ rfl
    have hr2 := HA.out _ y hy
    have hu := HU.out j _ _ HXJ.out (by rw [← hj]; exact hy)
    clear hy
    obtain ⟨ya, yv⟩ := y
    dsimp only at d0 d1 hr2 hu
    rw [show o + (i * eR.k + 0) = o + i * 2 from rfl] at d0
    rw [show o + (i * eR.k + 1) = o + i * 2 + 1 from rfl] at d1
    obtain ⟨n1, n2, n3, n4, n5, n6, n7, n8⟩ := arc_num hr hr2 hu hn
    obtain ⟨P, hP⟩ : ∃ P, P = xv * (ya - xa) + (yv - xv) * (n - xa) := ⟨_, rfl⟩
    obtain ⟨D, hD⟩ : ∃ D, D = ya - xa := ⟨_, rfl⟩
    rw [← hD] at n2
    replace n1 : wrap64 (ya - xa) = D := by rw [n1, hD]
    replace n3 : wrap64 (xv * D) = xv * D := by rw [hD]; exact n3
    replace n7 : wrap64 (xv * D + (yv - xv) * (n - xa)) = P := by rw [hD, n7, hP]
    rw [← hP] at n8
    have k1 : P / D ≤ 240000000000 ∧ -240000000000 ≤ P / D := by have := ediv_bd n2 240000000000 (by decide) n8.1 n8.2; omega
    have k2 : (-P) / D ≤ 240000000000 ∧ -240000000000 ≤ (-P) / D := by have := ediv_bd (a := -P) n2 240000000000 (by decide) (by omega) (by omega); omega
    have k3 : wrap64 (-P) = -P := by unfold wrap64; omega
    have HF1 := Lib.hid (fun W => inst_floor P D W n2 (by omega) (by omega))
    have HF2 := Lib.hid (fun W => inst_floor (-P) D W n2 (by omega) (by omega))
    obtain ⟨X, hX⟩ : ∃ X, X = P / D := ⟨_, rfl⟩
    obtain ⟨Y, hY⟩ : ∃ Y, Y = (-P) / D := ⟨_, rfl⟩
    rw [← hX] at HF1 k1
    rw [← hY] at HF2 k2
    have k4 : wrap64 (-Y) = -Y := by unfold wrap64; omega
    have HJ := Lib.hid hj
    have HK1 := Lib.hid k1
    have HK2 := Lib.hid k2
    clear HR HA HU HQ hj hr hr2 hu n8 hX hY hP hD k1 k2
    go_wp2_with fail
    refine region_mixW [0, 0, 0, 0, 0, 0, 0, 0, 0, 2, 1, 1] (by kernel_rfl) (by kernel_rfl) (by kernel_rfl) ?_
    repeat (refine wpM_quiet (fun K hK => ?_); go_simp; first | (refine hK _ ?_; clear hK K) | (apply Exists.intro; refine ⟨fun _ => ?_, hK _ ?_⟩; (first | fail); clear hK K))
    refine wpM_two (fun J hJ d => ?_) (fun J hJ d => ?_)
    all_goals (go_simp; refine hJ _ _ (by first | exact lay_in w [_] _ | exact lay_in w [_, _] _ | exact lay_in w [_, _, _] _ | exact lay_in w [_, _, _, _] _ | exact lay_in w [_, _, _, _, _] _ | exact lay_in w [_, _, _, _, _, _] _) (fun K hK d => ?_); go_simp; refine hK _ _ (by first | exact lay_in w [_] _ | exact lay_in w [_, _] _ | exact lay_in w [_, _, _] _ | exact lay_in w [_, _, _, _] _ | exact lay_in w [_, _, _, _, _] _ | exact lay_in w [_, _, _, _, _, _] _) ?_; clear hK K hJ J)
    all_goals (repeat (first | (refine wpM_quiet (fun K hK => ?_); go_simp; first | (refine hK _ ?_; clear hK K) | (apply Exists.intro; refine ⟨fun _ => ?_, hK _ ?_⟩; (first | fail); clear hK K)) | (refine wpM_special (fun K hK d => ?_); go_simp; refine hK _ _ (by first | exact lay_in w [_] _ | exact lay_in w [_, _] _ | exact lay_in w [_, _, _] _ | exact lay_in w [_, _, _, _] _ | exact lay_in w [_, _, _, _, _] _ | exact lay_in w [_, _, _, _, _, _] _) ?_; clear hK K)))
    all_goals (refine wpM_nil ?_; intro d; rw [lay_bw])
    all_goals
     go_wp2_with (go_at_call 161; first | ((with_reducible refine (HF1.out _).mono ?_); rintro e w' ⟨rfl, dq, rfl⟩; rw [lay_bw]) | ((with_reducible refine (HF2.out _).mono ?_); rintro e w' ⟨rfl, dq, rfl⟩; rw [lay_bw]))
    all_goals exact bodyPost_ret (v := (.agg #[.int .i64 (X), .int .i64 (-Y)])) (by simp [results, Tryz.results88, go_sem]) rfl ⟨⟨X, -Y, by have := HK1.out; omega, by have := HK2.out; omega, rfl⟩, lay_ex _ _⟩
set_option maxHeartbeats 2000000
open Go.RowKit

def ArcE (B : Int) (w : World) (e : Ending) (w' : World) : Prop := (∃ x y k : Int, (k = 0 → (-B ≤ x ∧ x ≤ B) ∧ (-B ≤ y ∧ y ≤ B)) ∧ (0 ≤ k ∧ k ≤ 100) ∧ (k ≠ 0 → x = 0 ∧ y = 0) ∧ e = .returned (.tuple #[(.agg #[.int .i64 (x), .int .i64 (y)]), .int .i64 k])) ∧ ∃ d, w' = bw w d
theorem inst_reading (n : Int) (w : World) :
  Calls Tryz.prog 87 #[.int .i64 n] w fun e w' => e = .returned (.bool (decide (-60000 ≤ n ∧ n ≤ 7800000))) ∧ w' = w := by
 go_enter Tryz.func87, Tryz.ntmps87
 go_wp2
 all_goals go_ret
 all_goals exact ⟨ret_bool (by rw [Bool.eq_iff_iff]; simp; try omega), rfl⟩
theorem inst_Correction (ix n : Int) (v : Value) (l : List ErV) (w : World) (hv : SlG eR w v l) :
  Calls Tryz.prog 25 #[.agg #[.int .i64 ix, v], .int .i64 n] w (ArcE 240000060000 w) := by
 obtain ⟨a, c, rfl⟩ := hv.form
 have HV := Lib.hid (fun L => inst_Valid ix _ l (lay w L) (hv.lay L))
 have HA : Hid (∀ L, InsOk ix l → (-60000 ≤ n ∧ n ≤ 7800000) → Calls Tryz.prog 88 #[.slice a l.length c, .int .i64 n] (lay w L) (ArcIn 240000000000 (lay w L))) := Lib.hid (fun L h1 h2 => inst_arc _ l ix n (lay w L) (hv.lay L) h1 h2)
 have HR := Lib.hid (fun W => inst_reading n W)
 clear hv
 generalize l.length = m at *
 refine lay_start ?_
 go_enter Tryz.func25, Tryz.ntmps25
 go_wp2_with fail
 refine (HV.out _).mono ?_
 rintro e w' ⟨⟨q, rfl, hq⟩, d, rfl⟩
 rw [lay_bw]
 have HQ := Lib.hid hq
 clear hq
 cases q
 ·go_wp2_with fail
  exact bodyPost_ret (v := .tuple #[(.agg #[.int .i64 (0), .int .i64 (0)]), .int .i64 1]) (by simp [results, Tryz.results25, go_sem]) rfl ⟨⟨0, 0, 1, by decide, by decide, fun _ => ⟨rfl, rfl⟩, rfl⟩, lay_ex _ _⟩
 ·have hI := HQ.out rfl
  obtain ⟨i0, i1⟩ := hI.ix
  have HI := Lib.hid hI
  clear hI
  by_cases hn : -60000 ≤ n ∧ n ≤ 7800000
  ·rw [decide_eq_true hn] at HR
   have HN := Lib.hid hn
   clear hn
   go_wp2_with (go_at_call 87; refine (HR.out _).mono ?_; rintro e w' ⟨rfl, rfl⟩)
   refine (HA.out _ HI.out HN.out).mono ?_
   rintro e w' ⟨⟨x, y, hx, hy, rfl⟩, d2, rfl⟩
   rw [lay_bw]
   have k1 : wrap64 (x + ix) = x + ix := by unfold wrap64; omega
   have k2 : wrap64 (y + ix) = y + ix := by unfold wrap64; omega
   have HX := Lib.hid hx
   have HY := Lib.hid hy
   clear hx hy
   go_wp2_with fail
   exact bodyPost_ret (v := .tuple #[(.agg #[.int .i64 (x + ix), .int .i64 (y + ix)]), .int .i64 0]) (by simp [results, Tryz.results25, go_sem]) rfl ⟨⟨x + ix, y + ix, 0, fun _ => by have := HX.out; have := HY.out; omega, by decide, fun h => absurd rfl h, rfl⟩, lay_ex _ _⟩
  ·rw [decide_eq_false hn] at HR
   clear hn
   go_wp2_with (go_at_call 87; refine (HR.out _).mono ?_; rintro e w' ⟨rfl, rfl⟩)
   exact bodyPost_ret (v := .tuple #[(.agg #[.int .i64 (0), .int .i64 (0)]), .int .i64 2]) (by simp [results, Tryz.results25, go_sem]) rfl ⟨⟨0, 0, 2, by decide, by decide, fun _ => ⟨rfl, rfl⟩, rfl⟩, lay_ex _ _⟩
theorem inst_Apply (ix n b : Int) (v : Value) (l : List ErV) (w : World) (hv : SlG eR w v l) (hn : -60000 ≤ n ∧ n ≤ 7800000) (hb : 0 ≤ b ∧ b ≤ 60000) :
  Calls Tryz.prog 26 #[.agg #[.int .i64 ix, v], .int .i64 n, .int .i64 b] w (ArcE 240010000000 w) := by
 obtain ⟨a, c, rfl⟩ := hv.form
 have HC := Lib.hid (fun L => inst_Correction ix n _ l (lay w L) (hv.lay L))
 clear hv
 generalize l.length = m at *
 obtain ⟨hn1, hn2⟩ := hn
 obtain ⟨hb1, hb2⟩ := hb
 have z1 : wrap64 (n - b) = n - b := by unfold wrap64; omega
 have z2 : wrap64 (n + b) = n + b := by unfold wrap64; omega
 have z3 : ¬ b < 0 := by omega
 have z4 : ¬ 60000 < b := by omega
 refine lay_start ?_
 go_enter Tryz.func26, Tryz.ntmps26
 go_wp2_with fail
 refine (HC.out _).mono ?_
 rintro e w' ⟨⟨x, y, k, hk, hk2, hk3, rfl⟩, d, rfl⟩
 rw [lay_bw]
 obtain ⟨hk0, hk1⟩ := hk2
 by_cases hz : k = 0
 ·subst hz
  obtain ⟨hx, hy⟩ := hk rfl
  have k1 : wrap64 (n - b + x) = n - b + x := by unfold wrap64; omega
  have k2 : wrap64 (n + b + y) = n + b + y := by unfold wrap64; omega
  have HX := Lib.hid hx
  have HY := Lib.hid hy
  clear hx hy hk hk3
  go_wp2_with fail
  exact bodyPost_ret (v := .tuple #[(.agg #[.int .i64 (n - b + x), .int .i64 (n + b + y)]), .int .i64 0]) (by simp [results, Tryz.results26, go_sem]) rfl ⟨⟨n - b + x, n + b + y, 0, fun _ => by have := HX.out; have := HY.out; omega, by decide, fun h => absurd rfl h, rfl⟩, lay_ex _ _⟩
 ·have hz2 : (k == 0) = false := beq_eq_false_iff_ne.2 hz
  have HZ := Lib.hid hz
  clear hk hk3 hz
  go_wp2_with fail
  exact bodyPost_ret (v := .tuple #[(.agg #[.int .i64 (0), .int .i64 (0)]), .int .i64 k]) (by simp [results, Tryz.results26, go_sem]) rfl ⟨⟨0, 0, k, fun h => absurd h HZ.out, ⟨hk0, hk1⟩, fun _ => ⟨rfl, rfl⟩, rfl⟩, lay_ex _ _⟩
set_option maxHeartbeats 400000
open Go.RowKit

theorem angle_result (lo hi : Int) (w : World) (hv : validB lo hi = true) :
  Calls Tryz.prog 95 #[.int .i64 lo, .int .i64 hi] w fun e w' => e = .returned (.tuple #[(.agg #[.int .i64 (lo), .int .i64 (hi)]), .int .i64 0]) ∧ ∃ d, w' = bw w d := by
 refine lay_start ?_
 obtain ⟨g1, g2, g3⟩ := validB_iff.1 hv
 have q1 : fitsB lo = true := by simp [fitsB]; omega
 have q2 : fitsB hi = true := by simp [fitsB]; omega
 have c1 := fun w => angle_fits lo w
 have c2 := fun w => angle_fits hi w
 rw [q1] at c1
 rw [q2] at c2
 go_enter Tryz.func95, Tryz.ntmps95
 go_wp2_with (go_at_call 53; first | (with_reducible refine (c1 _).mono ?_; rintro e w' ⟨rfl, rfl⟩) | (with_reducible refine (c2 _).mono ?_; rintro e w' ⟨rfl, rfl⟩))
 all_goals exact bodyPost_ret (v := .tuple #[(.agg #[.int .i64 (lo), .int .i64 (hi)]), .int .i64 0]) (by simp [results, Tryz.results95, go_sem]) rfl ⟨rfl, lay_ex _ _⟩
theorem angle_Add (a b x y : Int) (w : World) (h1 : validB a b = true) (h2 : validB x y = true) (h3 : validB (a + x) (b + y) = true) :
  Calls Tryz.prog 33 #[(.agg #[.int .i64 (a), .int .i64 (b)]), (.agg #[.int .i64 (x), .int .i64 (y)])] w fun e w' => e = .returned (.tuple #[(.agg #[.int .i64 (a + x), .int .i64 (b + y)]), .int .i64 0]) ∧ ∃ d, w' = bw w d := by
 refine lay_start ?_
 obtain ⟨g1, g2, g3⟩ := validB_iff.1 h1
 obtain ⟨k1, k2, k3⟩ := validB_iff.1 h2
 have c1 := fun w => angle_Valid a b w
 rw [h1] at c1
 have c2 := fun w => angle_Valid x y w
 rw [h2] at c2
 have c3 := fun w => angle_result (a + x) (b + y) w h3
 have f1 : wrap64 (a + x) = a + x := by unfold wrap64; omega
 have f2 : wrap64 (b + y) = b + y := by unfold wrap64; omega
 go_enter Tryz.func33, Tryz.ntmps33
 go_wp2_with (first | (go_at_call 38; first | (with_reducible refine (c1 _).mono ?_; rintro e w' ⟨rfl, d, rfl⟩) | (with_reducible refine (c2 _).mono ?_; rintro e w' ⟨rfl, d, rfl⟩)) | (go_at_call 95; refine (c3 _).mono ?_; rintro e w' ⟨rfl, d, rfl⟩))
 all_goals exact bodyPost_ret (v := .tuple #[(.agg #[.int .i64 (a + x), .int .i64 (b + y)]), .int .i64 0]) (by simp [results, Tryz.results33, go_sem]) rfl ⟨rfl, lay_ex _ _⟩
theorem angle_Neg (a b : Int) (w : World) (h1 : validB a b = true) :
  Calls Tryz.prog 91 #[(.agg #[.int .i64 (a), .int .i64 (b)])] w fun e w' => e = .returned (.tuple #[(.agg #[.int .i64 (-b), .int .i64 (-a)]), .int .i64 0]) ∧ ∃ d, w' = bw w d := by
 refine lay_start ?_
 obtain ⟨g1, g2, g3⟩ := validB_iff.1 h1
 have c1 := fun w => angle_Valid a b w
 rw [h1] at c1
 have c3 := fun w => angle_result (-b) (-a) w (validB_iff.2 ⟨by omega, by omega, by omega⟩)
 go_enter Tryz.func91, Tryz.ntmps91
 go_wp2_with (first | (go_at_call 38; refine (c1 _).mono ?_; rintro e w' ⟨rfl, d, rfl⟩) | (go_at_call 95; refine (c3 _).mono ?_; rintro e w' ⟨rfl, d, rfl⟩))
 all_goals exact bodyPost_ret (v := .tuple #[(.agg #[.int .i64 (-b), .int .i64 (-a)]), .int .i64 0]) (by simp [results, Tryz.results91, go_sem]) rfl ⟨rfl, lay_ex _ _⟩
set_option maxHeartbeats 1000000
open Go.RowKit

def ArcV (P : Prop) (lo hi : Int) (w : World) (e : Ending) (w' : World) : Prop := (∃ x y k : Int, (k = 0 → P ∧ x = lo ∧ y = hi ∧ (-1099511627776 ≤ lo ∧ lo ≤ 1099511627776) ∧ (-1099511627776 ≤ hi ∧ hi ≤ 1099511627776)) ∧ (0 ≤ k ∧ k ≤ 100) ∧ (k ≠ 0 → x = 0 ∧ y = 0) ∧ e = .returned (.tuple #[(.agg #[.int .i64 (x), .int .i64 (y)]), .int .i64 k])) ∧ ∃ d, w' = bw w d
theorem fitsB_iff {n : Int} : fitsB n = true ↔ -1099511627776 ≤ n ∧ n ≤ 1099511627776 := by unfold fitsB; rw [decide_eq_true_eq]
theorem ang_resultA (lo hi : Int) (w : World) :
  Calls Tryz.prog 95 #[.int .i64 lo, .int .i64 hi] w (ArcV True lo hi w) := by
 have H1 := Lib.hid (fun W => angle_fits lo W)
 have H2 := Lib.hid (fun W => angle_fits hi W)
 by_cases h : fitsB lo = true ∧ fitsB hi = true
 ·obtain ⟨h1, h2⟩ := h
  rw [h1] at H1
  rw [h2] at H2
  have HF : Hid ((-1099511627776 ≤ lo ∧ lo ≤ 1099511627776) ∧ (-1099511627776 ≤ hi ∧ hi ≤ 1099511627776)) := Lib.hid ⟨fitsB_iff.1 h1, fitsB_iff.1 h2⟩
  clear h1 h2
  refine lay_start ?_
  go_enter Tryz.func95, Tryz.ntmps95
  go_wp2_with (go_at_call 53; first | ((with_reducible refine (H1.out _).mono ?_); rintro e w' ⟨rfl, rfl⟩) | ((with_reducible refine (H2.out _).mono ?_); rintro e w' ⟨rfl, rfl⟩))
  exact bodyPost_ret (v := .tuple #[(.agg #[.int .i64 (lo), .int .i64 (hi)]), .int .i64 0]) (by simp [results, Tryz.results95, go_sem]) rfl ⟨⟨lo, hi, 0, fun _ => ⟨trivial, rfl, rfl, HF.out.1, HF.out.2⟩, by decide, fun h => absurd rfl h, rfl⟩, lay_ex _ _⟩
 ·have hor : (fitsB lo = false) ∨ (fitsB lo = true ∧ fitsB hi = false) := by
   cases h1 : fitsB lo
   ·exact .inl rfl
   ·cases h2 : fitsB hi
    ·exact .inr ⟨rfl, rfl⟩
    ·exact absurd ⟨h1, h2⟩ h
  clear h
  rcases hor with h1 | ⟨h1, h2⟩
  all_goals
   first | rw [h1] at H1 | skip
   first | rw [h2] at H2 | skip
   refine lay_start ?_
   go_enter Tryz.func95, Tryz.ntmps95
   go_wp2_with (go_at_call 53; first | ((with_reducible refine (H1.out _).mono ?_); rintro e w' ⟨rfl, rfl⟩) | ((with_reducible refine (H2.out _).mono ?_); rintro e w' ⟨rfl, rfl⟩))
   exact bodyPost_ret (v := .tuple #[(.agg #[.int .i64 (0), .int .i64 (0)]), .int .i64 5]) (by simp [results, Tryz.results95, go_sem]) rfl ⟨⟨0, 0, 5, fun h => absurd h (by decide), by decide, fun _ => ⟨rfl, rfl⟩, rfl⟩, lay_ex _ _⟩
theorem wrap_sum {a b x y : Int} (h1 : validB a b = true) (h2 : validB x y = true) : wrap64 (a + x) = a + x ∧ wrap64 (b + y) = b + y := by
 obtain ⟨g1, g2, g3⟩ := validB_iff.1 h1
 obtain ⟨k1, k2, k3⟩ := validB_iff.1 h2
 constructor <;> (unfold wrap64; omega)
theorem ang_AddA (a b x y : Int) (w : World) :
  Calls Tryz.prog 33 #[(.agg #[.int .i64 (a), .int .i64 (b)]), (.agg #[.int .i64 (x), .int .i64 (y)])] w (ArcV (validB a b = true ∧ validB x y = true) (a + x) (b + y) w) := by
 have H1 := Lib.hid (fun W => angle_Valid a b W)
 have H2 := Lib.hid (fun W => angle_Valid x y W)
 have HR := Lib.hid (fun W => ang_resultA (a + x) (b + y) W)
 by_cases h : validB a b = true ∧ validB x y = true
 ·obtain ⟨h1, h2⟩ := h
  obtain ⟨f1, f2⟩ := wrap_sum h1 h2
  have HV := Lib.hid h1
  have HV2 := Lib.hid h2
  rw [h1] at H1
  rw [h2] at H2
  clear h1 h2
  refine lay_start ?_
  go_enter Tryz.func33, Tryz.ntmps33
  go_wp2_with (go_at_call 38; first | ((with_reducible refine (H1.out _).mono ?_); rintro e w' ⟨rfl, dq, rfl⟩; rw [lay_bw]) | ((with_reducible refine (H2.out _).mono ?_); rintro e w' ⟨rfl, dq, rfl⟩; rw [lay_bw]))
  refine (HR.out _).mono ?_
  rintro e w' ⟨⟨X, Y, k, hk, hk2, hk3, rfl⟩, d, rfl⟩
  rw [lay_bw]
  have HK := Lib.hid hk
  have HK2 := Lib.hid hk2
  have HK3 := Lib.hid hk3
  clear hk hk2 hk3
  go_wp2_with fail
  exact bodyPost_ret (v := .tuple #[(.agg #[.int .i64 (X), .int .i64 (Y)]), .int .i64 k]) (by simp [results, Tryz.results33, go_sem]) rfl ⟨⟨X, Y, k, fun h => ⟨⟨HV.out, HV2.out⟩, (HK.out h).2⟩, HK2.out, HK3.out, rfl⟩, lay_ex _ _⟩
 ·have hor : (validB a b = false) ∨ (validB a b = true ∧ validB x y = false) := by
   cases h1 : validB a b
   ·exact .inl rfl
   ·cases h2 : validB x y
    ·exact .inr ⟨rfl, rfl⟩
    ·exact absurd ⟨h1, h2⟩ h
  clear h
  rcases hor with h1 | ⟨h1, h2⟩
  all_goals
   first | rw [h1] at H1 | skip
   first | rw [h2] at H2 | skip
   refine lay_start ?_
   go_enter Tryz.func33, Tryz.ntmps33
   go_wp2_with (go_at_call 38; first | ((with_reducible refine (H1.out _).mono ?_); rintro e w' ⟨rfl, dq, rfl⟩; rw [lay_bw]) | ((with_reducible refine (H2.out _).mono ?_); rintro e w' ⟨rfl, dq, rfl⟩; rw [lay_bw]))
   exact bodyPost_ret (v := .tuple #[(.agg #[.int .i64 (0), .int .i64 (0)]), .int .i64 1]) (by simp [results, Tryz.results33, go_sem]) rfl ⟨⟨0, 0, 1, fun h => absurd h (by decide), by decide, fun _ => ⟨rfl, rfl⟩, rfl⟩, lay_ex _ _⟩
theorem ang_NegA (x y : Int) (w : World) :
  Calls Tryz.prog 91 #[(.agg #[.int .i64 (x), .int .i64 (y)])] w (ArcV (validB x y = true) (-y) (-x) w) := by
 by_cases h : validB x y = true
 ·refine (angle_Neg x y w h).mono ?_
  rintro e w' ⟨rfl, d⟩
  obtain ⟨g1, g2, g3⟩ := validB_iff.1 h
  exact ⟨⟨-y, -x, 0, fun _ => ⟨h, rfl, rfl, by omega, by omega⟩, by decide, fun h => absurd rfl h, rfl⟩, d⟩
 ·have H1 := Lib.hid (fun W => angle_Valid x y W)
  rw [Bool.eq_false_iff.2 h] at H1
  clear h
  refine lay_start ?_
  go_enter Tryz.func91, Tryz.ntmps91
  go_wp2_with (go_at_call 38; refine (H1.out _).mono ?_; rintro e w' ⟨rfl, dq, rfl⟩; rw [lay_bw])
  exact bodyPost_ret (v := .tuple #[(.agg #[.int .i64 (0), .int .i64 (0)]), .int .i64 1]) (by simp [results, Tryz.results91, go_sem]) rfl ⟨⟨0, 0, 1, fun h => absurd h (by decide), by decide, fun _ => ⟨rfl, rfl⟩, rfl⟩, lay_ex _ _⟩
theorem ang_SubA (a b x y : Int) (w : World) :
  Calls Tryz.prog 29 #[(.agg #[.int .i64 (a), .int .i64 (b)]), (.agg #[.int .i64 (x), .int .i64 (y)])] w (ArcV (validB a b = true ∧ validB x y = true) (a - y) (b - x) w) := by
 have HN := Lib.hid (fun W => ang_NegA x y W)
 refine lay_start ?_
 go_enter Tryz.func29, Tryz.ntmps29
 go_wp2_with fail
 refine (HN.out _).mono ?_
 rintro e w' ⟨⟨X, Y, k, hk, hk2, hk3, rfl⟩, d, rfl⟩
 rw [lay_bw]
 by_cases hz : k = 0
 ·subst hz
  obtain ⟨hv, rfl, rfl, h1, h2⟩ := hk rfl
  have HV := Lib.hid hv
  have HA := Lib.hid (fun W => ang_AddA a b (-y) (-x) W)
  clear hk hk2 hk3 hv h1 h2
  go_wp2_with fail
  refine (HA.out _).mono ?_
  rintro e w' ⟨⟨X, Y, k, hk, hk2, hk3, rfl⟩, d2, rfl⟩
  rw [lay_bw]
  have HK := Lib.hid hk
  have HK2 := Lib.hid hk2
  have HK3 := Lib.hid hk3
  clear hk hk2 hk3
  go_wp2_with fail
  exact bodyPost_ret (v := .tuple #[(.agg #[.int .i64 (X), .int .i64 (Y)]), .int .i64 k]) (by simp [results, Tryz.results29, go_sem]) rfl ⟨⟨X, Y, k, fun h => by obtain ⟨⟨p1, p2⟩, p3, p4, p5, p6⟩ := HK.out h; exact ⟨⟨p1, HV.out⟩, by omega, by omega, by omega, by omega⟩, HK2.out, HK3.out, rfl⟩, lay_ex _ _⟩
 ·obtain ⟨rfl, rfl⟩ := hk3 hz
  have hz2 : (k == 0) = false := beq_eq_false_iff_ne.2 hz
  have HZ := Lib.hid hz
  have HK2 := Lib.hid hk2
  clear hk hk2 hk3 hz
  go_wp2_with fail
  exact bodyPost_ret (v := .tuple #[(.agg #[.int .i64 (0), .int .i64 (0)]), .int .i64 k]) (by simp [results, Tryz.results29, go_sem]) rfl ⟨⟨0, 0, k, fun h => absurd h HZ.out, HK2.out, fun _ => ⟨rfl, rfl⟩, rfl⟩, lay_ex _ _⟩
end Go.Proofs.YtcbicpbbjbkiaaaGreatDoor
namespace Go.Proofs.YtcbicpbbjbkiaaaGreatDoor
open Go.RowKit

theorem b256_pow : 18446744073709551616 ^ 4 = b256 := by decide +kernel
theorem chain_next {y d m q u p r c : Nat} (hc : ChainN b256 y (d + 2) m u) (hu : u < b256) (hq : q = y / (d * (d + 1))) (h1 : p * b256 ≤ q * u) (h2 : q * u ≤ (p + 2) * b256) (hr : r < b256) (h3 : r + p = q + c * b256) (hc1 : c ≤ 1) : ChainN b256 y d (m + 1) r := by
 refine ⟨u, p, hc, by rw [← hq]; exact h1, by rw [← hq]; exact h2, ?_⟩
 have hp : p ≤ q := by
  have h4 : p * b256 ≤ q * b256 := Nat.le_trans h1 (Nat.mul_le_mul_left q (Nat.le_of_lt hu))
  exact Nat.le_of_mul_le_mul_right h4 b256_pos
 rw [← hq]
 have hc2 : c = 0 ∨ c = 1 := by omega
 rcases hc2 with rfl | rfl
 ·omega
 ·omega
set_option maxHeartbeats 4000000 in
set_option maxRecDepth 100000 in
theorem tr_less (x : List Nat) (odd : Nat) (hx : Wd 4 x) (ho : odd ≤ 1) (w : World) :
  Calls Tryz.prog 323 #[nuV x, .int .u64 (odd : Int)] w fun e w' => ∃ r d, e = .returned (nuV r) ∧ w' = bw w d ∧ Wd 4 r ∧ ∃ y, y * b256 ≤ val4 x * val4 x ∧ val4 x * val4 x ≤ (y + 2) * b256 ∧ ChainN b256 y (1 + odd) 34 (val4 r) := by
 refine lay_start ?_
 have HMx := Lib.hid (fun W => nm_mul x x hx hx W)
 unfold nuV at HMx ⊢
 go_enter Tryz.func323, Tryz.ntmps323
 go_wp2_with (go_at_call 322; refine (HMx.out _).mono ?_; rintro e w' ⟨y, d1, rfl, rfl, hy, hy1, hy2⟩)
 rw [b256_pow] at hy1 hy2
 have HY := Lib.hid (And.intro hy (And.intro hy1 hy2))
 clear hy hy1 hy2 HMx
 go_loopw [7, 8] (fun v7 _ wr => ∃ (k : Nat) (u : List Nat) (dd : Ext), k ≤ 34 ∧ v7 = .int .u64 (k : Int) ∧ wr = lay w [.inr dd, .inl (.cells #[.int .u64 (nt u 0 : Int), .int .u64 (nt u 1 : Int), .int .u64 (nt u 2 : Int), .int .u64 (nt u 3 : Int)] 355 (0, 0)), .inl (.cells #[.int .u64 (nt y 0 : Int), .int .u64 (nt y 1 : Int), .int .u64 (nt y 2 : Int), .int .u64 (nt y 3 : Int)] 355 (0, 0)), .inr d1, .inl (.cells #[.int .u64 0, .int .u64 0, .int .u64 0, .int .u64 0] 355 (0, 0)), .inl (.cells #[.int .u64 (nt x 0 : Int), .int .u64 (nt x 1 : Int), .int .u64 (nt x 2 : Int), .int .u64 (nt x 3 : Int)] 355 (0, 0))] ∧ Wd 4 u ∧ ChainN b256 (val4 y) (2 * k + 1 + odd) (34 - k) (val4 u)) (fun v7 _ _ => (intOf v7).toNat)
 case atStart => exact ⟨34, [0, 0, 0, 0], noExt _, Nat.le_refl _, rfl, (bw_noExt _).symm, ⟨rfl, fun i => by
  unfold nt
  match i with
  | 0 => decide
  | 1 => decide
  | 2 => decide
  | 3 => decide
  | i + 4 => simp⟩, by show val4 _ = 0; decide +kernel⟩
 case round =>
  obtain ⟨k, u, dd, hk, rfl, rfl, hu, hC⟩ := hrel
  have HC := Lib.hid (And.intro hu hC)
  clear hu hC
  by_cases hk0 : k = 0
  ·subst hk0
   go_wp2_with fail
   obtain ⟨dz, ez⟩ := lay_all w [.inr dd, .inl (.cells #[.int .u64 (nt u 0 : Int), .int .u64 (nt u 1 : Int), .int .u64 (nt u 2 : Int), .int .u64 (nt u 3 : Int)] 355 (0, 0)), .inl (.cells #[.int .u64 (nt y 0 : Int), .int .u64 (nt y 1 : Int), .int .u64 (nt y 2 : Int), .int .u64 (nt y 3 : Int)] 355 (0, 0)), .inr d1, .inl (.cells #[.int .u64 (nt u 0 : Int), .int .u64 (nt u 1 : Int), .int .u64 (nt u 2 : Int), .int .u64 (nt u 3 : Int)] 355 (0, 0)), .inl (.cells #[.int .u64 (nt x 0 : Int), .int .u64 (nt x 1 : Int), .int .u64 (nt x 2 : Int), .int .u64 (nt x 3 : Int)] 355 (0, 0))]
   exact bodyPost_ret (v := .agg #[.int .u64 (nt u 0 : Int), .int .u64 (nt u 1 : Int), .int .u64 (nt u 2 : Int), .int .u64 (nt u 3 : Int)]) (by simp [results, Tryz.results323, go_sem]) rfl ⟨u, dz, rfl, ez, HC.out.1, val4 y, HY.out.2.1, HY.out.2.2, by have := HC.out.2; rwa [show 2 * 0 + 1 + odd = 1 + odd by omega] at this⟩
  ·obtain ⟨j, hj⟩ : ∃ j, k = j + 1 := ⟨k - 1, by omega⟩
   obtain ⟨DV, hDV⟩ : ∃ DV : Nat, (2 * j + 1 + odd) * (2 * j + 1 + odd + 1) = DV := ⟨_, rfl⟩
   have hDVb : 2 ≤ DV ∧ DV ≤ 5000 := by
    rw [← hDV]
    constructor
    ·exact dd_ge (by omega)
    ·exact Nat.le_trans (Nat.mul_le_mul (show 2 * j + 1 + odd ≤ 68 by omega) (show 2 * j + 1 + odd + 1 ≤ 69 by omega)) (by decide)
   have hk1 : (0 : Int) < (k : Int) := by omega
   have hkj : (k : Int) - 1 = (j : Int) := by omega
   have kj : IntKind.u64.wrap (j : Int) = (j : Int) := IntWalk.u64_in _ (by omega)
   obtain ⟨A, hA⟩ : ∃ A : Int, 2 * (k : Int) = A := ⟨_, rfl⟩
   obtain ⟨A1, hA1⟩ : ∃ A1 : Int, A - 1 = A1 := ⟨_, rfl⟩
   obtain ⟨A2, hA2⟩ : ∃ A2 : Int, A1 + (odd : Int) = A2 := ⟨_, rfl⟩
   obtain ⟨A3, hA3⟩ : ∃ A3 : Int, A + (odd : Int) = A3 := ⟨_, rfl⟩
   have hA4 : A2 * A3 = (DV : Int) := by
    rw [← hDV, show A2 = ((2 * j + 1 + odd : Nat) : Int) by omega, show A3 = ((2 * j + 1 + odd + 1 : Nat) : Int) by omega]
    exact (Int.natCast_mul _ _).symm
   have kA : IntKind.u64.wrap A = A := IntWalk.u64_in _ (by omega)
   have kA1 : IntKind.u64.wrap A1 = A1 := IntWalk.u64_in _ (by omega)
   have kA2 : IntKind.u64.wrap A2 = A2 := IntWalk.u64_in _ (by omega)
   have kA3 : IntKind.u64.wrap A3 = A3 := IntWalk.u64_in _ (by omega)
   have kDV : IntKind.u64.wrap (DV : Int) = (DV : Int) := IntWalk.u64_in _ (by omega)
   have HD := Lib.hid (fun W => nm_div y 0 DV HY.out.1 (by omega) (by omega) W)
   unfold nuV at HD
   rw [show ((0 : Nat) : Int) = 0 from rfl] at HD
   have HJ := Lib.hid (And.intro hj hDV)
   clear hj hDV
   go_wp2_with (go_at_call 343; refine (HD.out _).mono ?_; rintro e w' ⟨q, dq, rfl, rfl, hq, hq2⟩)
   have HQ := Lib.hid (And.intro hq hq2)
   clear hq hq2 HD
   have HM := Lib.hid (fun W => nm_mul q u HQ.out.1 HC.out.1 W)
   unfold nuV at HM
   refine region_mixS 5 [(0, 0), (1, 0), (2, 0), (3, 1), (4, 1), (5, 3)] (by kernel_rfl) (by kernel_rfl) (by kernel_rfl) rfl ?_
   repeat (first | (refine wpMS_pure rfl (fun K hK => ?_); go_simp; refine hK _ ?_; clear hK K) | (refine wpMS_quiet rfl (fun K hK => ?_); go_simp; first | (refine hK _ ?_; clear hK K) | (apply Exists.intro; refine ⟨fun _ => ?_, hK _ ?_⟩; (first | fail); clear hK K)))
   refine wpMS_special rfl (fun K hK e1 => ?_)
   rw [lay_bw]
   go_simp
   refine (HM.out _).mono ?_
   rintro e w' ⟨p, dp, rfl, rfl, hp, hp1, hp2⟩
   rw [b256_pow] at hp1 hp2
   have HP := Lib.hid (And.intro hp (And.intro hp1 hp2))
   clear hp hp1 hp2 HM
   refine ⟨_, rfl, hK _ _ (lay_in w [.inr dp, .inr e1] _) ?_⟩
   clear hK K
   have HS := Lib.hid (fun W => nm_sub q p HQ.out.1 HP.out.1 W)
   unfold nuV at HS
   refine wpMS_special rfl (fun K hK e2 => ?_)
   rw [lay_bw, lay_bw]
   go_simp
   refine (HS.out _).mono ?_
   rintro e w' ⟨r, dr, rfl, rfl, hr, c, hc1, hr2⟩
   rw [b256_pow] at hr2
   have HR := Lib.hid (And.intro hr (And.intro hc1 hr2))
   clear hr hr2 HS hc1
   refine ⟨_, rfl, hK _ _ (lay_in w [.inr dr, .inr e2, .inr dp, .inr e1] _) ?_⟩
   clear hK K
   refine wpMS_store rfl (fun K hK e3 => ?_)
   rw [lay_bw, lay_bw]
   go_simp
   refine hK _ _ ?_
   clear hK K
   refine wpMS_nil (fun e4 => ?_)
   rw [lay_bw]
   obtain ⟨d9, e9⟩ := lay_fold w [.inr e4, .inr e3, .inr dr, .inr e2, .inr dp, .inr e1, .inl (.cells #[.int .u64 (nt q 0 : Int), .int .u64 (nt q 1 : Int), .int .u64 (nt q 2 : Int), .int .u64 (nt q 3 : Int)] 355 (0, 0)), .inr dq, .inr dd] [.inl (.cells #[.int .u64 (nt r 0 : Int), .int .u64 (nt r 1 : Int), .int .u64 (nt r 2 : Int), .int .u64 (nt r 3 : Int)] 355 (0, 0)), .inl (.cells #[.int .u64 (nt y 0 : Int), .int .u64 (nt y 1 : Int), .int .u64 (nt y 2 : Int), .int .u64 (nt y 3 : Int)] 355 (0, 0)), .inr d1, .inl (.cells #[.int .u64 0, .int .u64 0, .int .u64 0, .int .u64 0] 355 (0, 0)), .inl (.cells #[.int .u64 (nt x 0 : Int), .int .u64 (nt x 1 : Int), .int .u64 (nt x 2 : Int), .int .u64 (nt x 3 : Int)] 355 (0, 0))]
   change lay w [.inr e4, .inr e3, .inr dr, .inr e2, .inr dp, .inr e1, .inl (.cells #[.int .u64 (nt q 0 : Int), .int .u64 (nt q 1 : Int), .int .u64 (nt q 2 : Int), .int .u64 (nt q 3 : Int)] 355 (0, 0)), .inr dq, .inr dd, .inl (.cells #[.int .u64 (nt r 0 : Int), .int .u64 (nt r 1 : Int), .int .u64 (nt r 2 : Int), .int .u64 (nt r 3 : Int)] 355 (0, 0)), .inl (.cells #[.int .u64 (nt y 0 : Int), .int .u64 (nt y 1 : Int), .int .u64 (nt y 2 : Int), .int .u64 (nt y 3 : Int)] 355 (0, 0)), .inr d1, .inl (.cells #[.int .u64 0, .int .u64 0, .int .u64 0, .int .u64 0] 355 (0, 0)), .inl (.cells #[.int .u64 (nt x 0 : Int), .int .u64 (nt x 1 : Int), .int .u64 (nt x 2 : Int), .int .u64 (nt x 3 : Int)] 355 (0, 0))] = _ at e9
   rw [e9]
   clear e9
   have HF : Hid (Wd 4 r ∧ ChainN b256 (val4 y) (2 * j + 1 + odd) (34 - j) (val4 r)) := by
    refine Lib.hid ⟨HR.out.1, ?_⟩
    have hcc := HC.out.2
    have hq2 := HQ.out.2
    rw [HJ.out.1] at hcc hk
    rw [Nat.zero_mul, Nat.zero_add, ← HJ.out.2] at hq2
    have := chain_next (d := 2 * j + 1 + odd) (by rw [show 2 * j + 1 + odd + 2 = 2 * (j + 1) + 1 + odd by omega]; exact hcc) (by rw [← b256_pow]; exact val4_lt HC.out.1) hq2 HP.out.2.1 HP.out.2.2 (by rw [← b256_pow]; exact val4_lt HR.out.1) HR.out.2.2 HR.out.2.1
    rwa [show 34 - (j + 1) + 1 = 34 - j by omega] at this
   have HJ2 := Lib.hid (show j ≤ 34 by have := HJ.out.1; omega)
   have HJ3 := HJ.out.1
   go_wp2_with fail
   go_roundw
   case rel => exact ⟨j, r, d9, HJ2.out, rfl, rfl, HF.out.1, HF.out.2⟩
   case measure => simp [intOf]; omega
def octS (r : Nat) : Nat := (rotN r).1 / 73786976294838206464
def octC (r : Nat) : Nat := (rotN r).2 / 73786976294838206464
theorem octS_bt {r : Nat} (h1 : 1 ≤ r) (h2 : r ≤ 2700000) (h3 : r ≠ 1800000) : Bt (octS r) (sinT r) := bt_of h2 ((rot_all h1 h2).1 h3) (rot_near h2).1
theorem octC_bt {r : Nat} (h1 : 1 ≤ r) (h2 : r ≤ 2700000) : Bt (octC r) (cosT r) := bt_of h2 (rot_all h1 h2).2 (rot_near h2).2
theorem bt_lt {f : Nat} {v : Rat} (h : Bt f v) (hv : v ≤ 1) : f < 1073741824 := by
 obtain ⟨b1, b2⟩ := h
 have : (f : Rat) < 1073741824 := by grind
 exact_mod_cast this
theorem octS_lt {r : Nat} (h1 : 1 ≤ r) (h2 : r ≤ 2700000) (h3 : r ≠ 1800000) : octS r < 1073741824 := by
 have h4 : r ≤ 2700001 := Nat.le_succ_of_le h2
 exact bt_lt (octS_bt h1 h2 h3) (Rat.le_trans (sin_in h4).2 (Rat.le_trans (xi_in h4).2 (by grind)))
theorem octC_lt {r : Nat} (h1 : 1 ≤ r) (h2 : r ≤ 2700000) : octC r < 1073741824 :=
 bt_lt (octC_bt h1 h2) (cos_in (Nat.le_succ_of_le h2)).2
attribute [irreducible] octS octC
def sinQ (n : Nat) : Nat := if n = 0 then 0 else if n = 1800000 then 536870912 else if n = 5400000 then 1073741824 else if 2 * n ≤ 5400000 then octS n else octC (5400000 - n)
def exaQ (n : Nat) : Bool := n == 0 || n == 1800000 || n == 5400000
theorem top34 {r : List Nat} (h : Wd 4 r) : val4 r / 107839786668602559178668060348078522694548577690162289924414440996864 = nt r 0 / 17179869184 := by
 have e := valB_drop (B := 18446744073709551616) (l := r) (i := 0) (by rw [h.len]; decide)
 rw [List.drop_zero, h.len] at e
 have hlt := valB_lt (B := 18446744073709551616) (by decide) (l := r.drop 1) (fun x hx => h.mem x (List.mem_of_mem_drop hx))
 rw [List.length_drop, h.len] at hlt
 unfold val4
 rw [e]
 rw [show (107839786668602559178668060348078522694548577690162289924414440996864 : Nat) = 18446744073709551616 ^ (4 - 0 - 1) * 17179869184 by decide +kernel, ← Nat.div_div_eq_div_mul]
 rw [show 4 - 1 = 4 - 0 - 1 by rfl] at hlt
 generalize 18446744073709551616 ^ (4 - 0 - 1) = P at *
 rw [Nat.add_comm, Nat.add_mul_div_right _ _ (by omega), Nat.div_eq_of_lt hlt, Nat.zero_add]
theorem sin_cell {r : Nat} {x u p s : List Nat} {y c : Nat} (h1 : 1 ≤ r) (h2 : r ≤ 2700000) (h3 : r ≠ 1800000) (hx : val4 x = r * piN / 10800000) (hu : Wd 4 u) (hs : Wd 4 s)
  (q1 : y * b256 ≤ val4 x * val4 x) (q2 : val4 x * val4 x ≤ (y + 2) * b256) (hc : ChainN b256 y 2 34 (val4 u))
  (p1 : val4 p * b256 ≤ val4 x * val4 u) (p2 : val4 x * val4 u ≤ (val4 p + 2) * b256) (c1 : c ≤ 1) (e : val4 s + val4 p = val4 x + c * b256) : nt s 0 / 17179869184 = octS r := by
 have hul : val4 u < b256 := by rw [← b256_pow]; exact val4_lt hu
 have hsl : val4 s < b256 := by rw [← b256_pow]; exact val4_lt hs
 have hp : val4 p ≤ val4 x := by
  have h4 : val4 p * b256 ≤ val4 x * b256 := Nat.le_trans p1 (Nat.mul_le_mul_left _ (Nat.le_of_lt hul))
  exact Nat.le_of_mul_le_mul_right h4 b256_pos
 have hc2 : c = 0 := by
  have : c = 0 ∨ c = 1 := by omega
  rcases this with rfl | rfl
  ·rfl
  ·omega
 subst hc2
 rw [← top34 hs]
 exact cell_of (ser_sin h2 hx q1 q2 hc p1 p2 (by omega)) (octS_bt h1 h2 h3)
theorem one_out {f : Nat} {v : Rat} (hf : f < 1073741824) (hb : Bt f v) (hn : Nr (1 - ((0 : Nat) : Rat) / (b256 : Rat)) v sml) : False := by
 have h6 : (f : Rat) + 1 ≤ 1073741824 := by exact_mod_cast hf
 have h7 := hn.1
 have h8 : ((0 : Nat) : Rat) / (b256 : Rat) = 0 := by simp [Rat.div_def]
 rw [h8] at h7
 have h9 := hb.2
 unfold sml at h7
 grind
theorem cos_cell {r : Nat} {x u z s : List Nat} {y c : Nat} (h1 : 1 ≤ r) (h2 : r ≤ 2700000) (hx : val4 x = r * piN / 10800000) (hu : Wd 4 u) (hs : Wd 4 s)
  (q1 : y * b256 ≤ val4 x * val4 x) (q2 : val4 x * val4 x ≤ (y + 2) * b256) (hc : ChainN b256 y 1 34 (val4 u)) (hz : val4 z = 0) (c1 : c ≤ 1) (e : val4 s + val4 u = val4 z + c * b256) : nt s 0 / 17179869184 = octC r := by
 have hul : val4 u < b256 := by rw [← b256_pow]; exact val4_lt hu
 have hn := ser_cos h2 hx q1 q2 hc
 have hb := octC_bt h1 h2
 rw [← top34 hs]
 rw [hz, Nat.zero_add] at e
 have hu0 : val4 u ≠ 0 := fun h0 => by
  rw [h0] at hn
  exact one_out (octC_lt h1 h2) hb hn
 have hc2 : c = 1 := by
  have : c = 0 ∨ c = 1 := by omega
  rcases this with rfl | rfl
  ·omega
  ·rfl
 subst hc2
 have e2 : (val4 s : Rat) / (b256 : Rat) = 1 - (val4 u : Rat) / (b256 : Rat) := by
  have h5 : (val4 s : Rat) + (val4 u : Rat) = (b256 : Rat) := by exact_mod_cast (show val4 s + val4 u = b256 by omega)
  have hb := b256_rat
  rw [show (val4 s : Rat) = (b256 : Rat) - (val4 u : Rat) by grind]
  grind
 exact cell_of (by rw [e2]; exact hn) hb

theorem sin_wrap {a c : Nat} (h : a / 17179869184 = c) (hc : c < 1073741824) : wrap64 ((a : Int) / 17179869184) = (c : Int) := by
 have e : (a : Int) / 17179869184 = (c : Int) := by omega
 rw [e]
 unfold wrap64
 omega
theorem zero4 : Wd 4 [0, 0, 0, 0] ∧ val4 [0, 0, 0, 0] = 0 := ⟨⟨rfl, fun i => by
 unfold nt
 match i with
 | 0 => decide
 | 1 => decide
 | 2 => decide
 | 3 => decide
 | i + 4 => simp⟩, by decide +kernel⟩
set_option maxHeartbeats 4000000 in
set_option maxRecDepth 100000 in
theorem tg_sine (n : Nat) (hn : n ≤ 5400000) (w : World) :
  Calls Tryz.prog 291 #[.int .i64 (n : Int)] w fun e w' => e = .returned (.tuple #[.int .i64 (sinQ n : Int), .bool (exaQ n)]) ∧ ∃ d, w' = bw w d := by
 refine lay_start ?_
 by_cases c0 : n = 0
 ·subst c0
  go_enter Tryz.func291, Tryz.ntmps291
  go_wp2_with fail
  exact bodyPost_ret (v := .tuple #[.int .i64 0, .bool true]) (by simp [results, Tryz.results291, go_sem]) rfl ⟨rfl, lay_ex _ _⟩
 by_cases c1 : n = 1800000
 ·subst c1
  go_enter Tryz.func291, Tryz.ntmps291
  go_wp2_with fail
  exact bodyPost_ret (v := .tuple #[.int .i64 536870912, .bool true]) (by simp [results, Tryz.results291, go_sem]) rfl ⟨rfl, lay_ex _ _⟩
 by_cases c2 : n = 5400000
 ·subst c2
  go_enter Tryz.func291, Tryz.ntmps291
  go_wp2_with fail
  exact bodyPost_ret (v := .tuple #[.int .i64 1073741824, .bool true]) (by simp [results, Tryz.results291, go_sem]) rfl ⟨rfl, lay_ex _ _⟩
 have b0 : ((n : Int) == 0) = false := beq_eq_false_iff_ne.2 (by omega)
 have b1 : ((n : Int) == 1800000) = false := beq_eq_false_iff_ne.2 (by omega)
 have b2 : ((n : Int) == 5400000) = false := beq_eq_false_iff_ne.2 (by omega)
 have b3 : exaQ n = false := by unfold exaQ; simp [c0, c1, c2]
 rw [b3]
 obtain ⟨N2, hN2⟩ : ∃ N2 : Int, 2 * (n : Int) = N2 := ⟨_, rfl⟩
 have kN2 : IntKind.i64.wrap N2 = N2 := IntWalk.i64_in _ (by omega)
 by_cases c3 : 2 * n ≤ 5400000
 ·have b4 : N2 ≤ 5400000 := by omega
  rw [show sinQ n = octS n by unfold sinQ; rw [if_neg c0, if_neg c1, if_neg c2, if_pos c3]]
  have HR := Lib.hid (fun W => tr_radians n (by omega) W)
  unfold nuV at HR
  go_enter Tryz.func291, Tryz.ntmps291
  go_wp2_with (go_at_call 320; refine (HR.out _).mono ?_; rintro e w' ⟨x, dx, rfl, rfl, hx, hx2⟩)
  have HX := Lib.hid (And.intro hx hx2)
  clear hx hx2 HR
  have HL := Lib.hid (fun W => tr_less x 1 HX.out.1 (by decide) W)
  unfold nuV at HL
  rw [show ((1 : Nat) : Int) = 1 from rfl] at HL
  go_wp2_with fail
  refine region_mixS 6 [(0, 0), (1, 0), (2, 0), (3, 1), (4, 1), (5, 1), (6, 3)] (by kernel_rfl) (by kernel_rfl) (by kernel_rfl) rfl ?_
  repeat (first | (refine wpMS_pure rfl (fun K hK => ?_); go_simp; refine hK _ ?_; clear hK K) | (refine wpMS_quiet rfl (fun K hK => ?_); go_simp; first | (refine hK _ ?_; clear hK K) | (apply Exists.intro; refine ⟨fun _ => ?_, hK _ ?_⟩; (first | fail); clear hK K)))
  refine wpMS_special rfl (fun K hK e1 => ?_)
  rw [lay_bw]
  go_simp
  refine (HL.out _).mono ?_
  rintro e w' ⟨u, du, rfl, rfl, hu, y, hy1, hy2, hcn⟩
  have HU := Lib.hid (And.intro hu (And.intro hy1 (And.intro hy2 hcn)))
  clear hu hy1 hy2 hcn HL
  refine ⟨_, rfl, hK _ _ (lay_in w [.inr du, .inr e1] _) ?_⟩
  clear hK K
  have HM := Lib.hid (fun W => nm_mul x u HX.out.1 HU.out.1 W)
  unfold nuV at HM
  refine wpMS_special rfl (fun K hK e2 => ?_)
  rw [lay_bw, lay_bw]
  go_simp
  refine (HM.out _).mono ?_
  rintro e w' ⟨p, dp, rfl, rfl, hp, hp1, hp2⟩
  rw [b256_pow] at hp1 hp2
  have HP := Lib.hid (And.intro hp (And.intro hp1 hp2))
  clear hp hp1 hp2 HM
  refine ⟨_, rfl, hK _ _ (lay_in w [.inr dp, .inr e2, .inr du, .inr e1] _) ?_⟩
  clear hK K
  have HS := Lib.hid (fun W => nm_sub x p HX.out.1 HP.out.1 W)
  unfold nuV at HS
  refine wpMS_special rfl (fun K hK e3 => ?_)
  rw [lay_bw, lay_bw]
  go_simp
  refine (HS.out _).mono ?_
  rintro e w' ⟨r, dr, rfl, rfl, hr, c, hc1, hr2⟩
  rw [b256_pow] at hr2
  have HE := Lib.hid (sin_cell (by omega) (by omega) c1 HX.out.2 HU.out.1 hr HU.out.2.1 HU.out.2.2.1 HU.out.2.2.2 HP.out.2.1 HP.out.2.2 hc1 hr2)
  have HB := Lib.hid (octS_lt (r := n) (by omega) (by omega) c1)
  clear hr hr2 HS hc1
  refine ⟨_, rfl, hK _ _ (lay_in w [.inr dr, .inr e3, .inr dp, .inr e2, .inr du, .inr e1] _) ?_⟩
  clear hK K
  refine wpMS_store rfl (fun K hK e4 => ?_)
  rw [lay_bw, lay_bw]
  go_simp
  refine hK _ _ ?_
  clear hK K
  refine wpMS_nil (fun e5 => ?_)
  rw [lay_bw]
  go_wp2_with fail
  rw [sin_wrap HE.out HB.out]
  exact bodyPost_ret (v := .tuple #[.int .i64 (octS n : Int), .bool false]) (by simp [results, Tryz.results291, go_sem]) rfl ⟨rfl, lay_ex _ _⟩
 ·have b4 : ¬ N2 ≤ 5400000 := by omega
  rw [show sinQ n = octC (5400000 - n) by unfold sinQ; rw [if_neg c0, if_neg c1, if_neg c2, if_neg c3]]
  obtain ⟨m, hm⟩ : ∃ m, 5400000 - n = m := ⟨_, rfl⟩
  rw [hm]
  have hm2 : (5400000 : Int) - (n : Int) = (m : Int) := by omega
  have km : IntKind.i64.wrap (m : Int) = (m : Int) := IntWalk.i64_in _ (by omega)
  have HR := Lib.hid (fun W => tr_radians m (by omega) W)
  unfold nuV at HR
  go_enter Tryz.func291, Tryz.ntmps291
  go_wp2_with (go_at_call 320; refine (HR.out _).mono ?_; rintro e w' ⟨x, dx, rfl, rfl, hx, hx2⟩)
  have HX := Lib.hid (And.intro hx hx2)
  clear hx hx2 HR
  have HL := Lib.hid (fun W => tr_less x 0 HX.out.1 (by decide) W)
  unfold nuV at HL
  rw [show ((0 : Nat) : Int) = 0 from rfl] at HL
  go_wp2_with fail
  refine (HL.out _).mono ?_
  rintro e w' ⟨u, du, rfl, rfl, hu, y, hy1, hy2, hcn⟩
  have HU := Lib.hid (And.intro hu (And.intro hy1 (And.intro hy2 hcn)))
  clear hu hy1 hy2 hcn HL
  have HS := Lib.hid (fun W => nm_sub [0, 0, 0, 0] u zero4.1 HU.out.1 W)
  unfold nuV at HS
  change Hid (∀ W, Calls Tryz.prog 321 #[.agg #[.int .u64 0, .int .u64 0, .int .u64 0, .int .u64 0], _] W _) at HS
  go_wp2_with fail
  refine (HS.out _).mono ?_
  rintro e w' ⟨r, dr, rfl, rfl, hr, c, hc1, hr2⟩
  rw [b256_pow] at hr2
  have HE := Lib.hid (cos_cell (by omega) (by omega) HX.out.2 HU.out.1 hr HU.out.2.1 HU.out.2.2.1 HU.out.2.2.2 zero4.2 hc1 hr2)
  have HB := Lib.hid (octC_lt (r := m) (by omega) (by omega))
  clear hr hr2 HS hc1
  go_wp2_with fail
  rw [sin_wrap HE.out HB.out]
  exact bodyPost_ret (v := .tuple #[.int .i64 (octC m : Int), .bool false]) (by simp [results, Tryz.results291, go_sem]) rfl ⟨rfl, lay_ex _ _⟩
attribute [irreducible] sinQ
end Go.Proofs.YtcbicpbbjbkiaaaGreatDoor
namespace Go.Proofs.YtcbicpbbjbkiaaaGreatDoor
set_option maxHeartbeats 1000000
set_option maxRecDepth 100000
open Go.RowKit

theorem sinQ_le {n : Nat} (h : n ≤ 5400000) : sinQ n ≤ 1073741824 := by
 unfold sinQ
 split
 ·omega
 ·split
  ·omega
  ·split
   ·omega
   ·split
    ·exact Nat.le_of_lt (octS_lt (by omega) (by omega) (by omega))
    ·exact Nat.le_of_lt (octC_lt (by omega) (by omega))
def foldT (n : Int) : Nat := if 10800000 < n % 21600000 then (if 16200000 < n % 21600000 then (21600000 - n % 21600000).toNat else (n % 21600000 - 10800000).toNat) else (if 5400000 < n % 21600000 then (10800000 - n % 21600000).toNat else (n % 21600000).toNat)
def souB (n : Int) : Bool := decide (10800000 < n % 21600000)
def oneQ (n : Nat) : Int := if exaQ n then 0 else 1
def bLo (n : Int) : Int := if souB n then -((sinQ (foldT n) : Int) + oneQ (foldT n)) else (sinQ (foldT n) : Int)
def bHi (n : Int) : Int := if souB n then -(sinQ (foldT n) : Int) else (sinQ (foldT n) : Int) + oneQ (foldT n)
theorem foldT_le (n : Int) : foldT n ≤ 5400000 := by
 unfold foldT
 split <;> split <;> omega
theorem oneQ_in (n : Nat) : 0 ≤ oneQ n ∧ oneQ n ≤ 1 := by unfold oneQ; split <;> omega
theorem tmod_turn (n : Int) : n.tmod 21600000 = n % 21600000 ∨ (n.tmod 21600000 < 0 ∧ n.tmod 21600000 + 21600000 = n % 21600000) := by
 by_cases h : 0 ≤ n
 ·left; exact Int.tmod_eq_emod_of_nonneg h
 ·have h1 : n.tmod 21600000 = -((-n) % 21600000) := by
   have := Int.neg_tmod (a := -n) (b := 21600000)
   rw [Int.neg_neg] at this
   rw [this, Int.tmod_eq_emod_of_nonneg (by omega)]
  rw [h1]
  omega
theorem tg_turned (n : Int) (w : World) :
  Calls Tryz.prog 290 #[.int .i64 n] w fun e w' => e = .returned (.int .i64 (n % 21600000)) ∧ w' = w := by
 obtain ⟨r, hr⟩ : ∃ r, n.tmod 21600000 = r := ⟨_, rfl⟩
 obtain ⟨q, hq⟩ : ∃ q, n % 21600000 = q := ⟨_, rfl⟩
 have hc := tmod_turn n
 rw [hr, hq] at hc
 have hq2 : 0 ≤ q ∧ q < 21600000 := by omega
 rw [hq]
 have k1 : IntKind.i64.wrap r = r := IntWalk.i64_in _ (by omega)
 rcases hc with hc | ⟨hc, hc2⟩
 ·subst hc
  have h0 : ¬ r < 0 := by omega
  go_enter Tryz.func290, Tryz.ntmps290
  go_wp2_with fail
  go_ret
  exact ⟨rfl, rfl⟩
 ·have k2 : IntKind.i64.wrap q = q := IntWalk.i64_in _ (by omega)
  go_enter Tryz.func290, Tryz.ntmps290
  go_wp2_with fail
  go_ret
  exact ⟨rfl, rfl⟩
theorem tg_bounds (n : Int) (w : World) :
  Calls Tryz.prog 245 #[.int .i64 n] w fun e w' => e = .returned (.tuple #[.int .i64 (bLo n), .int .i64 (bHi n)]) ∧ ∃ d, w' = bw w d := by
 refine lay_start ?_
 have HT := Lib.hid (fun W => tg_turned n W)
 have hf := foldT_le n
 have hs := sinQ_le hf
 have HS := Lib.hid (fun W => tg_sine (foldT n) hf W)
 have h1 : bLo n = if souB n then -((sinQ (foldT n) : Int) + oneQ (foldT n)) else (sinQ (foldT n) : Int) := rfl
 have h2 : bHi n = if souB n then -(sinQ (foldT n) : Int) else (sinQ (foldT n) : Int) + oneQ (foldT n) := rfl
 have h3 : foldT n = if 10800000 < n % 21600000 then (if 16200000 < n % 21600000 then (21600000 - n % 21600000).toNat else (n % 21600000 - 10800000).toNat) else (if 5400000 < n % 21600000 then (10800000 - n % 21600000).toNat else (n % 21600000).toNat) := rfl
 have h4 : souB n = decide (10800000 < n % 21600000) := rfl
 have h5 : oneQ (foldT n) = if exaQ (foldT n) then 0 else 1 := rfl
 obtain ⟨q, hq⟩ : ∃ q, n % 21600000 = q := ⟨_, rfl⟩
 have hq2 : 0 ≤ q ∧ q < 21600000 := by omega
 rw [hq] at HT h3 h4
 clear hq
 generalize foldT n = f at *
 generalize sinQ f = s at *
 generalize exaQ f = x at *
 rw [h1, h2]
 clear h1 h2
 rw [h4]
 have ks : IntKind.i64.wrap (s : Int) = (s : Int) := IntWalk.i64_in _ (by omega)
 obtain ⟨s1, hs1⟩ : ∃ s1 : Int, (s : Int) + 1 = s1 := ⟨_, rfl⟩
 have ks1 : IntKind.i64.wrap s1 = s1 := IntWalk.i64_in _ (by omega)
 obtain ⟨m1, hm1⟩ : ∃ m1 : Int, -s1 = m1 := ⟨_, rfl⟩
 have km1 : IntKind.i64.wrap m1 = m1 := IntWalk.i64_in _ (by omega)
 obtain ⟨m0, hm0⟩ : ∃ m0 : Int, -(s : Int) = m0 := ⟨_, rfl⟩
 have km0 : IntKind.i64.wrap m0 = m0 := IntWalk.i64_in _ (by omega)
 by_cases c1 : 10800000 < q
 ·have e1 : decide (10800000 < q) = true := decide_eq_true c1
  obtain ⟨p, hp⟩ : ∃ p : Int, q - 10800000 = p := ⟨_, rfl⟩
  have kp : IntKind.i64.wrap p = p := IntWalk.i64_in _ (by omega)
  rw [if_pos c1] at h3
  by_cases c2 : 5400000 < p
  ·obtain ⟨g, hg⟩ : ∃ g : Int, 10800000 - p = g := ⟨_, rfl⟩
   have kg : IntKind.i64.wrap g = g := IntWalk.i64_in _ (by omega)
   have hfg : (f : Int) = g := by rw [h3, if_pos (by omega)]; omega
   rw [hfg] at HS
   clear h3 hf
   cases x
   ·rw [e1, show oneQ f = 1 from h5]
    clear h5 h4
    first | simp only [if_true] | simp only [Bool.false_eq_true, if_false]
    first | rw [hs1] | skip
    first | rw [hm1] | skip
    first | rw [hm0] | skip
    go_enter Tryz.func245, Tryz.ntmps245
    go_wp2_with (first | (go_at_call 290; refine (HT.out _).mono ?_; rintro e w' ⟨rfl, hw⟩; rw [hw]) | (go_at_call 291; refine (HS.out _).mono ?_; rintro e w' ⟨rfl, d, rfl⟩))
    refine bodyPost_ret (v := .tuple #[.int .i64 m1, .int .i64 m0]) (by simp [results, Tryz.results245, go_sem]) rfl ⟨?_, lay_ex _ _⟩
    first | rfl | (simp; omega) | simp
   ·rw [e1, show oneQ f = 0 from h5]
    clear h5 h4
    first | simp only [if_true] | simp only [Bool.false_eq_true, if_false]
    first | rw [hs1] | skip
    first | rw [hm1] | skip
    first | rw [hm0] | skip
    go_enter Tryz.func245, Tryz.ntmps245
    go_wp2_with (first | (go_at_call 290; refine (HT.out _).mono ?_; rintro e w' ⟨rfl, hw⟩; rw [hw]) | (go_at_call 291; refine (HS.out _).mono ?_; rintro e w' ⟨rfl, d, rfl⟩))
    refine bodyPost_ret (v := .tuple #[.int .i64 m0, .int .i64 m0]) (by simp [results, Tryz.results245, go_sem]) rfl ⟨?_, lay_ex _ _⟩
    first | rfl | (simp; omega) | simp
  ·have hfg : (f : Int) = p := by rw [h3, if_neg (by omega)]; omega
   rw [hfg] at HS
   clear h3 hf
   cases x
   ·rw [e1, show oneQ f = 1 from h5]
    clear h5 h4
    first | simp only [if_true] | simp only [Bool.false_eq_true, if_false]
    first | rw [hs1] | skip
    first | rw [hm1] | skip
    first | rw [hm0] | skip
    go_enter Tryz.func245, Tryz.ntmps245
    go_wp2_with (first | (go_at_call 290; refine (HT.out _).mono ?_; rintro e w' ⟨rfl, hw⟩; rw [hw]) | (go_at_call 291; refine (HS.out _).mono ?_; rintro e w' ⟨rfl, d, rfl⟩))
    refine bodyPost_ret (v := .tuple #[.int .i64 m1, .int .i64 m0]) (by simp [results, Tryz.results245, go_sem]) rfl ⟨?_, lay_ex _ _⟩
    first | rfl | (simp; omega) | simp
   ·rw [e1, show oneQ f = 0 from h5]
    clear h5 h4
    first | simp only [if_true] | simp only [Bool.false_eq_true, if_false]
    first | rw [hs1] | skip
    first | rw [hm1] | skip
    first | rw [hm0] | skip
    go_enter Tryz.func245, Tryz.ntmps245
    go_wp2_with (first | (go_at_call 290; refine (HT.out _).mono ?_; rintro e w' ⟨rfl, hw⟩; rw [hw]) | (go_at_call 291; refine (HS.out _).mono ?_; rintro e w' ⟨rfl, d, rfl⟩))
    refine bodyPost_ret (v := .tuple #[.int .i64 m0, .int .i64 m0]) (by simp [results, Tryz.results245, go_sem]) rfl ⟨?_, lay_ex _ _⟩
    first | rfl | (simp; omega) | simp
 ·have e1 : decide (10800000 < q) = false := decide_eq_false c1
  rw [if_neg c1] at h3
  by_cases c2 : 5400000 < q
  ·obtain ⟨g, hg⟩ : ∃ g : Int, 10800000 - q = g := ⟨_, rfl⟩
   have kg : IntKind.i64.wrap g = g := IntWalk.i64_in _ (by omega)
   have hfg : (f : Int) = g := by rw [h3, if_pos (by omega)]; omega
   rw [hfg] at HS
   clear h3 hf
   cases x
   ·rw [e1, show oneQ f = 1 from h5]
    clear h5 h4
    first | simp only [if_true] | simp only [Bool.false_eq_true, if_false]
    first | rw [hs1] | skip
    first | rw [hm1] | skip
    first | rw [hm0] | skip
    go_enter Tryz.func245, Tryz.ntmps245
    go_wp2_with (first | (go_at_call 290; refine (HT.out _).mono ?_; rintro e w' ⟨rfl, hw⟩; rw [hw]) | (go_at_call 291; refine (HS.out _).mono ?_; rintro e w' ⟨rfl, d, rfl⟩))
    refine bodyPost_ret (v := .tuple #[.int .i64 (s : Int), .int .i64 s1]) (by simp [results, Tryz.results245, go_sem]) rfl ⟨?_, lay_ex _ _⟩
    first | rfl | (simp; omega) | simp
   ·rw [e1, show oneQ f = 0 from h5]
    clear h5 h4
    first | simp only [if_true] | simp only [Bool.false_eq_true, if_false]
    first | rw [hs1] | skip
    first | rw [hm1] | skip
    first | rw [hm0] | skip
    go_enter Tryz.func245, Tryz.ntmps245
    go_wp2_with (first | (go_at_call 290; refine (HT.out _).mono ?_; rintro e w' ⟨rfl, hw⟩; rw [hw]) | (go_at_call 291; refine (HS.out _).mono ?_; rintro e w' ⟨rfl, d, rfl⟩))
    refine bodyPost_ret (v := .tuple #[.int .i64 (s : Int), .int .i64 (s : Int)]) (by simp [results, Tryz.results245, go_sem]) rfl ⟨?_, lay_ex _ _⟩
    first | rfl | (simp; omega) | simp
  ·have hfg : (f : Int) = q := by rw [h3, if_neg (by omega)]; omega
   rw [hfg] at HS
   clear h3 hf
   cases x
   ·rw [e1, show oneQ f = 1 from h5]
    clear h5 h4
    first | simp only [if_true] | simp only [Bool.false_eq_true, if_false]
    first | rw [hs1] | skip
    first | rw [hm1] | skip
    first | rw [hm0] | skip
    go_enter Tryz.func245, Tryz.ntmps245
    go_wp2_with (first | (go_at_call 290; refine (HT.out _).mono ?_; rintro e w' ⟨rfl, hw⟩; rw [hw]) | (go_at_call 291; refine (HS.out _).mono ?_; rintro e w' ⟨rfl, d, rfl⟩))
    refine bodyPost_ret (v := .tuple #[.int .i64 (s : Int), .int .i64 s1]) (by simp [results, Tryz.results245, go_sem]) rfl ⟨?_, lay_ex _ _⟩
    first | rfl | (simp; omega) | simp
   ·rw [e1, show oneQ f = 0 from h5]
    clear h5 h4
    first | simp only [if_true] | simp only [Bool.false_eq_true, if_false]
    first | rw [hs1] | skip
    first | rw [hm1] | skip
    first | rw [hm0] | skip
    go_enter Tryz.func245, Tryz.ntmps245
    go_wp2_with (first | (go_at_call 290; refine (HT.out _).mono ?_; rintro e w' ⟨rfl, hw⟩; rw [hw]) | (go_at_call 291; refine (HS.out _).mono ?_; rintro e w' ⟨rfl, d, rfl⟩))
    refine bodyPost_ret (v := .tuple #[.int .i64 (s : Int), .int .i64 (s : Int)]) (by simp [results, Tryz.results245, go_sem]) rfl ⟨?_, lay_ex _ _⟩
    first | rfl | (simp; omega) | simp
def metB (lo hi n : Int) : Bool := decide ((n - lo) % 21600000 ≤ hi - lo)
theorem tg_meets (lo hi n : Int) (h1 : -2199023255552 ≤ lo) (h2 : lo ≤ hi) (h3 : hi ≤ 2199023255552) (h4 : 0 ≤ n) (h5 : n ≤ 21600000) (w : World) :
  Calls Tryz.prog 246 #[(.agg #[.int .i64 (lo), .int .i64 (hi)]), .int .i64 n] w fun e w' => e = .returned (.bool (metB lo hi n)) ∧ ∃ d, w' = bw w d := by
 refine lay_start ?_
 obtain ⟨D, hD⟩ : ∃ D : Int, n - lo = D := ⟨_, rfl⟩
 obtain ⟨E, hE⟩ : ∃ E : Int, hi - lo = E := ⟨_, rfl⟩
 have HT := Lib.hid (fun W => tg_turned D W)
 obtain ⟨q, hq⟩ : ∃ q, D % 21600000 = q := ⟨_, rfl⟩
 rw [show metB lo hi n = decide (q ≤ E) by unfold metB; rw [hD, hE, hq]]
 rw [hq] at HT
 have kD : IntKind.i64.wrap D = D := IntWalk.i64_in _ (by omega)
 have kE : IntKind.i64.wrap E = E := IntWalk.i64_in _ (by omega)
 clear hq
 go_enter Tryz.func246, Tryz.ntmps246
 go_wp2_with fail
 refine region_bw (by kernel_rfl) (by kernel_rfl) ?_
 repeat (go_big_quiet_step ((first | (go_at_call 290; exact bqs (HT.out _) ⟨_, rfl⟩))))
 refine wpQuiet_nil ?_
 rintro w' ⟨d, rfl⟩
 rw [lay_bw]
 go_wp2_with fail
 go_ret
 exact ⟨rfl, lay_ex _ _⟩
theorem tg_further (lo hi : Int) (h1 : -2199023255552 ≤ lo) (h2 : lo ≤ hi) (h3 : hi ≤ 2199023255552) (w : World) :
  Calls Tryz.prog 187 #[(.agg #[.int .i64 (lo), .int .i64 (hi)])] w fun e w' => e = .returned (.agg #[.int .i64 (lo + 5400000), .int .i64 (hi + 5400000)]) ∧ ∃ d, w' = bw w d := by
 refine lay_start ?_
 have k1 : IntKind.i64.wrap (lo + 5400000) = lo + 5400000 := IntWalk.i64_in _ (by omega)
 have k2 : IntKind.i64.wrap (hi + 5400000) = hi + 5400000 := IntWalk.i64_in _ (by omega)
 go_enter Tryz.func187, Tryz.ntmps187
 go_wp2_with fail
 exact bodyPost_ret (v := (.agg #[.int .i64 (lo + 5400000), .int .i64 (hi + 5400000)])) (by simp [results, Tryz.results187, go_sem]) rfl ⟨rfl, lay_ex _ _⟩
theorem tg_valid (lo hi : Int) (w : World) :
  Calls Tryz.prog 185 #[(.agg #[.int .i64 (lo), .int .i64 (hi)])] w fun e w' => e = .returned (.bool (validB lo hi)) ∧ ∃ d, w' = bw w d := by
 refine lay_start ?_
 go_enter Tryz.func185, Tryz.ntmps185
 go_wp2
 all_goals go_ret
 all_goals exact ⟨ret_bool (by rw [Bool.eq_iff_iff]; simp [validB]; omega), lay_ex _ _⟩
def encL (lo hi : Int) : Int := if metB lo hi 16200000 then -1073741824 else mn (bLo lo) (bLo hi)
def encH (lo hi : Int) : Int := if metB lo hi 5400000 then 1073741824 else mx (bHi lo) (bHi hi)
theorem tg_enclosure (lo hi : Int) (h1 : -2199023255552 ≤ lo) (h2 : lo ≤ hi) (h3 : hi ≤ 2199023255552) (w : World) :
  Calls Tryz.prog 186 #[(.agg #[.int .i64 (lo), .int .i64 (hi)])] w fun e w' => e = .returned (.agg #[.int .i64 (encL lo hi), .int .i64 (encH lo hi)]) ∧ ∃ d, w' = bw w d := by
 refine lay_start ?_
 have HB1 := Lib.hid (fun W => tg_bounds lo W)
 have HB2 := Lib.hid (fun W => tg_bounds hi W)
 have HM1 := Lib.hid (fun W => tg_meets lo hi 5400000 h1 h2 h3 (by decide) (by decide) W)
 have HM2 := Lib.hid (fun W => tg_meets lo hi 16200000 h1 h2 h3 (by decide) (by decide) W)
 have e1 : encL lo hi = if metB lo hi 16200000 then -1073741824 else mn (bLo lo) (bLo hi) := rfl
 have e2 : encH lo hi = if metB lo hi 5400000 then 1073741824 else mx (bHi lo) (bHi hi) := rfl
 rw [e1, e2]
 clear e1 e2
 generalize bLo lo = p at *
 generalize bLo hi = q at *
 generalize bHi lo = r at *
 generalize bHi hi = s at *
 cases hm1 : metB lo hi 5400000 <;> cases hm2 : metB lo hi 16200000
 all_goals
  rw [hm1] at HM1
  rw [hm2] at HM2
  clear hm1 hm2
  go_enter Tryz.func186, Tryz.ntmps186
  go_wp2_with (first | (go_at_call 245; first | (with_reducible refine (HB1.out _).mono ?_; rintro e w' ⟨rfl, d, rfl⟩) | (with_reducible refine (HB2.out _).mono ?_; rintro e w' ⟨rfl, d', rfl⟩)) | (go_at_call 246; first | (with_reducible refine (HM1.out _).mono ?_; rintro e w' ⟨rfl, d, rfl⟩) | (with_reducible refine (HM2.out _).mono ?_; rintro e w' ⟨rfl, d', rfl⟩)))
 ·exact bodyPost_ret (v := (.agg #[.int .i64 (mn p q), .int .i64 (mx r s)])) (by simp [results, Tryz.results186, go_sem]) rfl ⟨rfl, lay_ex _ _⟩
 ·exact bodyPost_ret (v := (.agg #[.int .i64 (-1073741824), .int .i64 (mx r s)])) (by simp [results, Tryz.results186, go_sem]) rfl ⟨rfl, lay_ex _ _⟩
 ·exact bodyPost_ret (v := (.agg #[.int .i64 (mn p q), .int .i64 (1073741824)])) (by simp [results, Tryz.results186, go_sem]) rfl ⟨rfl, lay_ex _ _⟩
 ·exact bodyPost_ret (v := (.agg #[.int .i64 (-1073741824), .int .i64 (1073741824)])) (by simp [results, Tryz.results186, go_sem]) rfl ⟨rfl, lay_ex _ _⟩
attribute [irreducible] encL encH bLo bHi
theorem tg_Sin (lo hi : Int) (hv : validB lo hi = true) (w : World) :
  Calls Tryz.prog 102 #[(.agg #[.int .i64 (lo), .int .i64 (hi)])] w fun e w' => e = .returned (.tuple #[(.agg #[.int .i64 (encL lo hi), .int .i64 (encH lo hi)]), .int .i64 0]) ∧ ∃ d, w' = bw w d := by
 refine lay_start ?_
 have h := validB_iff.1 hv
 have HV := Lib.hid (fun W => tg_valid lo hi W)
 rw [hv] at HV
 have HE := Lib.hid (fun W => tg_enclosure lo hi (by omega) h.1 (by omega) W)
 clear h hv
 generalize encL lo hi = p at *
 generalize encH lo hi = q at *
 go_enter Tryz.func102, Tryz.ntmps102
 go_wp2_with (first | (go_at_call 185; refine (HV.out _).mono ?_; rintro e w' ⟨rfl, d, rfl⟩) | (go_at_call 186; refine (HE.out _).mono ?_; rintro e w' ⟨rfl, d, rfl⟩))
 exact bodyPost_ret (v := .tuple #[(.agg #[.int .i64 (p), .int .i64 (q)]), .int .i64 0]) (by simp [results, Tryz.results102, go_sem]) rfl ⟨rfl, lay_ex _ _⟩
theorem tg_Cos (lo hi : Int) (hv : validB lo hi = true) (w : World) :
  Calls Tryz.prog 100 #[(.agg #[.int .i64 (lo), .int .i64 (hi)])] w fun e w' => e = .returned (.tuple #[(.agg #[.int .i64 (encL (lo + 5400000) (hi + 5400000)), .int .i64 (encH (lo + 5400000) (hi + 5400000))]), .int .i64 0]) ∧ ∃ d, w' = bw w d := by
 refine lay_start ?_
 have h := validB_iff.1 hv
 have HV := Lib.hid (fun W => tg_valid lo hi W)
 rw [hv] at HV
 have HF := Lib.hid (fun W => tg_further lo hi (by omega) h.1 (by omega) W)
 have HE := Lib.hid (fun W => tg_enclosure (lo + 5400000) (hi + 5400000) (by omega) (by omega) (by omega) W)
 clear h hv
 generalize encL (lo + 5400000) (hi + 5400000) = p at *
 generalize encH (lo + 5400000) (hi + 5400000) = q at *
 go_enter Tryz.func100, Tryz.ntmps100
 go_wp2_with (first | (go_at_call 185; refine (HV.out _).mono ?_; rintro e w' ⟨rfl, d, rfl⟩) | (go_at_call 187; refine (HF.out _).mono ?_; rintro e w' ⟨rfl, d, rfl⟩) | (go_at_call 186; refine (HE.out _).mono ?_; rintro e w' ⟨rfl, d, rfl⟩))
 exact bodyPost_ret (v := .tuple #[(.agg #[.int .i64 (p), .int .i64 (q)]), .int .i64 0]) (by simp [results, Tryz.results100, go_sem]) rfl ⟨rfl, lay_ex _ _⟩
theorem nr_up {a b e : Rat} (h : Nr a b e) (h1 : b ≤ 4 / 5) (h2 : e ≤ 1 / 100) : a ≤ 1 := by obtain ⟨h3, h4⟩ := h; grind
theorem nr_dn {a b e : Rat} (h : Nr a b e) (h1 : 17 / 25 ≤ b) (h2 : e ≤ 1 / 100) : 1 / 2 ≤ a := by obtain ⟨h3, h4⟩ := h; grind
theorem nat_up {s K : Nat} (hK : 0 < K) (h : (s : Rat) / (K : Rat) ≤ 1) : s ≤ K := by
 have k0 : (0 : Rat) < (K : Rat) := by exact_mod_cast hK
 have b1 := Rat.mul_le_mul_of_nonneg_right h (Rat.le_of_lt k0)
 rw [Rat.div_mul_cancel (Rat.ne_of_gt k0), Rat.one_mul] at b1
 exact_mod_cast b1
theorem nat_dn {s K : Nat} (hK : 0 < K) (h : 1 / 2 ≤ (s : Rat) / (K : Rat)) : K ≤ 2 * s := by
 have k0 : (0 : Rat) < (K : Rat) := by exact_mod_cast hK
 have b1 := Rat.mul_le_mul_of_nonneg_right h (Rat.le_of_lt k0)
 rw [Rat.div_mul_cancel (Rat.ne_of_gt k0)] at b1
 have b2 : (K : Rat) ≤ 2 * (s : Rat) := by grind
 exact_mod_cast b2
theorem k96_nat : k96 = ((79228162514264337593543950336 : Nat) : Rat) := rfl
theorem rot_bd {r : Nat} (h : r ≤ 2700000) : (rotN r).1 ≤ 79228162514264337593543950336 ∧ 79228162514264337593543950336 ≤ 2 * (rotN r).2 := by
 obtain ⟨h1, h2⟩ := rot_near h
 have hs := sin_in (n := r) (Nat.le_succ_of_le h)
 have hx := xi_in (n := r) (Nat.le_succ_of_le h)
 have hc := cos_in (n := r) (Nat.le_succ_of_le h)
 have g1 : 64 * (r : Rat) / k96 ≤ 1 / 100 := by
  have hr : (r : Rat) ≤ 2700000 := by exact_mod_cast h
  have hr0 : (0 : Rat) ≤ (r : Rat) := by exact_mod_cast Nat.zero_le r
  have hk : 0 ≤ 1 / k96 ∧ 1 / k96 ≤ 1 / 100000000000000000000 := by unfold k96; constructor <;> grind
  have := rmul hr0 hr hk.1 hk.2
  generalize (r : Rat) = q at *
  grind
 rw [k96_nat] at h1 h2 g1
 exact ⟨nat_up (by decide) (nr_up h1 (Rat.le_trans hs.2 hx.2) g1), nat_dn (by decide) (nr_dn h2 hc.1 g1)⟩
theorem rot_gen {K c1 s1 s c : Nat} (hK : 0 < K) (h1 : c1 ≤ K) (h2 : 2 * (K - c1) ≤ s1) (hs : s ≤ K) (hc : K ≤ 2 * c) : s ≤ (s * c1 + c * s1) / K ∧ (c * c1 - s * s1) / K ≤ c := by
 constructor
 ·rw [Nat.le_div_iff_mul_le hK]
  obtain ⟨d, rfl⟩ : ∃ d, K = c1 + d := ⟨K - c1, by omega⟩
  rw [Nat.add_sub_cancel_left] at h2
  have e1 : s * d ≤ (c1 + d) * d := Nat.mul_le_mul_right d hs
  have e2 : (c1 + d) * d ≤ 2 * c * d := Nat.mul_le_mul_right d hc
  have e3 : c * (2 * d) ≤ c * s1 := Nat.mul_le_mul_left c h2
  have e4 : 2 * c * d = c * (2 * d) := by rw [Nat.mul_comm 2 c, Nat.mul_assoc]
  rw [Nat.mul_add]
  omega
 ·refine Nat.div_le_of_le_mul ?_
  refine Nat.le_trans (Nat.sub_le _ _) ?_
  rw [Nat.mul_comm]
  exact Nat.mul_le_mul_right c h1
theorem rot_grow {r : Nat} (h : r ≤ 2700000) : (rotN r).1 ≤ (rotN (r + 1)).1 ∧ (rotN (r + 1)).2 ≤ (rotN r).2 := by
 obtain ⟨h1, h2⟩ := rot_bd h
 rw [rotN_succ]
 exact rot_gen (by decide) (by decide) (by decide) h1 h2
theorem rot_mono {a : Nat} : ∀ {k : Nat}, a + k ≤ 2700001 → (rotN a).1 ≤ (rotN (a + k)).1 ∧ (rotN (a + k)).2 ≤ (rotN a).2
 | 0, _ => ⟨Nat.le_refl _, Nat.le_refl _⟩
 | k + 1, h => by
  obtain ⟨h1, h2⟩ := rot_mono (a := a) (k := k) (by omega)
  obtain ⟨h3, h4⟩ := rot_grow (r := a + k) (by omega)
  exact ⟨Nat.le_trans h1 h3, Nat.le_trans h4 h2⟩
theorem octS_mono {a b : Nat} (h : a ≤ b) (hb : b ≤ 2700001) : octS a ≤ octS b := by
 obtain ⟨k, rfl⟩ : ∃ k, b = a + k := ⟨b - a, by omega⟩
 unfold octS
 exact Nat.div_le_div_right (rot_mono hb).1
theorem octC_anti {a b : Nat} (h : a ≤ b) (hb : b ≤ 2700001) : octC b ≤ octC a := by
 obtain ⟨k, rfl⟩ : ∃ k, b = a + k := ⟨b - a, by omega⟩
 unfold octC
 exact Nat.div_le_div_right (rot_mono hb).2
theorem oct_of {r x y : Nat} (h : RotN r x y) : octS r = x / 73786976294838206464 ∧ octC r = y / 73786976294838206464 := by
 have e : rotN r = (x, y) := h.1
 unfold octS octC
 rw [e]
 exact ⟨rfl, rfl⟩
theorem oct_mid : octS 2700000 = octC 2700000 := by
 have h := oct_of rot_2700000
 rw [h.1, h.2]
theorem octS_half : octS 1800000 < 536870912 ∧ 536870912 ≤ octS 1800001 := by
 have h := oct_of rot_1800000
 have g := oct_of rot_1800001
 rw [h.1, g.1]
 decide +kernel
theorem sinQ_at (n : Nat) : sinQ n = if n = 0 then 0 else if n = 1800000 then 536870912 else if n = 5400000 then 1073741824 else if 2 * n ≤ 5400000 then octS n else octC (5400000 - n) := by unfold sinQ; rfl
theorem sinQ_0 : sinQ 0 = 0 := by rw [sinQ_at, if_pos rfl]
theorem sinQ_h : sinQ 1800000 = 536870912 := by rw [sinQ_at, if_neg (by decide), if_pos rfl]
theorem sinQ_q : sinQ 5400000 = 1073741824 := by rw [sinQ_at, if_neg (by decide), if_neg (by decide), if_pos rfl]
theorem sinQ_s {n : Nat} (h0 : n ≠ 0) (h1 : n ≠ 1800000) (h2 : n ≤ 2700000) : sinQ n = octS n := by rw [sinQ_at, if_neg h0, if_neg h1, if_neg (by omega), if_pos (by omega)]
theorem sinQ_c {n : Nat} (h2 : 2700000 < n) (h3 : n < 5400000) : sinQ n = octC (5400000 - n) := by rw [sinQ_at, if_neg (by omega), if_neg (by omega), if_neg (by omega), if_neg (by omega)]
theorem sinQ_low {n : Nat} (h : n < 1800000) : sinQ n < 536870912 := by
 by_cases h0 : n = 0
 ·subst h0; rw [sinQ_0]; decide
 ·rw [sinQ_s h0 (by omega) (by omega)]
  exact Nat.lt_of_le_of_lt (octS_mono (show n ≤ 1800000 by omega) (by omega)) octS_half.1
theorem sinQ_lt {n : Nat} (h : n < 5400000) : sinQ n < 1073741824 := by
 by_cases h0 : n < 1800000
 ·have := sinQ_low h0; omega
 ·by_cases h1 : n = 1800000
  ·subst h1; rw [sinQ_h]; decide
  ·by_cases h2 : n ≤ 2700000
   ·rw [sinQ_s (by omega) h1 h2]; exact octS_lt (by omega) h2 h1
   ·rw [sinQ_c (by omega) h]; exact octC_lt (by omega) (by omega)
theorem sinQ_gt {n : Nat} (h : 1800000 < n) (h2 : n < 5400000) : 536870912 ≤ sinQ n := by
 by_cases h1 : n ≤ 2700000
 ·rw [sinQ_s (by omega) (by omega) h1]
  exact Nat.le_trans octS_half.2 (octS_mono (by omega) (by omega))
 ·rw [sinQ_c (by omega) h2]
  exact Nat.le_trans octS_half.2 (Nat.le_trans (octS_mono (b := 2700000) (by decide) (by decide)) (Nat.le_trans (Nat.le_of_eq oct_mid) (octC_anti (by omega) (by decide))))
theorem sinQ_mono {a b : Nat} (h : a ≤ b) (hb : b ≤ 5400000) : sinQ a ≤ sinQ b := by
 by_cases hq : b = 5400000
 ·subst hq; rw [sinQ_q]
  exact sinQ_le h
 by_cases a0 : a = 0
 ·subst a0; rw [sinQ_0]; exact Nat.zero_le _
 by_cases ab : a = b
 ·subst ab; exact Nat.le_refl _
 by_cases a1 : a < 1800000
 ·have h1 := sinQ_low a1
  by_cases b1 : b < 1800000
  ·rw [sinQ_s a0 (by omega) (by omega), sinQ_s (by omega) (by omega) (by omega)]
   exact octS_mono h (by omega)
  ·by_cases b2 : b = 1800000
   ·subst b2; rw [sinQ_h]; omega
   ·have := sinQ_gt (n := b) (by omega) (by omega); omega
 ·by_cases a2 : a = 1800000
  ·subst a2; rw [sinQ_h]; exact sinQ_gt (by omega) (by omega)
  ·by_cases a3 : a ≤ 2700000
   ·rw [sinQ_s a0 a2 a3]
    by_cases b3 : b ≤ 2700000
    ·rw [sinQ_s (by omega) (by omega) b3]; exact octS_mono h (by omega)
    ·rw [sinQ_c (by omega) (by omega)]
     exact Nat.le_trans (octS_mono a3 (by decide)) (Nat.le_trans (Nat.le_of_eq oct_mid) (octC_anti (by omega) (by decide)))
   ·rw [sinQ_c (by omega) (by omega), sinQ_c (by omega) (by omega)]
    exact octC_anti (by omega) (by omega)
def hiQ (n : Nat) : Int := (sinQ n : Int) + oneQ n
theorem oneQ_at (n : Nat) : oneQ n = if n = 0 ∨ n = 1800000 ∨ n = 5400000 then 0 else 1 := by
 unfold oneQ exaQ
 by_cases h : n = 0 ∨ n = 1800000 ∨ n = 5400000
 ·rw [if_pos h, if_pos (by simp; omega)]
 ·rw [if_neg h, if_neg (by simp; omega)]
theorem hiQ_mono {a b : Nat} (h : a ≤ b) (hb : b ≤ 5400000) : hiQ a ≤ hiQ b := by
 have hm := sinQ_mono h hb
 unfold hiQ
 rw [oneQ_at, oneQ_at]
 by_cases hb0 : b = 0
 ·have : a = 0 := by omega
  subst this; subst hb0; exact Int.le_refl _
 by_cases hb1 : b = 1800000
 ·by_cases ha : a = 1800000
  ·subst ha; subst hb1; exact Int.le_refl _
  ·have := sinQ_low (n := a) (by omega)
   subst hb1
   rw [sinQ_h]
   split <;> simp <;> omega
 by_cases hb2 : b = 5400000
 ·by_cases ha : a = 5400000
  ·subst ha; subst hb2; exact Int.le_refl _
  ·have := sinQ_lt (n := a) (by omega)
   subst hb2
   rw [sinQ_q]
   split <;> simp <;> omega
 rw [if_neg (c := b = 0 ∨ _) (by omega)]
 split <;> omega
theorem hiQ_in {n : Nat} (h : n ≤ 5400000) : 0 ≤ hiQ n ∧ hiQ n ≤ 1073741824 ∧ (sinQ n : Int) ≤ hiQ n := by
 have h1 := hiQ_mono h (Nat.le_refl _)
 have h2 : hiQ 5400000 = 1073741824 := by unfold hiQ; rw [sinQ_q, oneQ_at, if_pos (by decide)]; rfl
 have h3 := (oneQ_in n).1
 rw [h2] at h1
 unfold hiQ at *
 omega
theorem bLo_at (n : Int) : bLo n = if souB n then -(hiQ (foldT n)) else (sinQ (foldT n) : Int) := by unfold bLo hiQ; rfl
theorem bHi_at (n : Int) : bHi n = if souB n then -(sinQ (foldT n) : Int) else hiQ (foldT n) := by unfold bHi hiQ; rfl
theorem fold_shift (n k : Int) : foldT (n + 21600000 * k) = foldT n ∧ souB (n + 21600000 * k) = souB n := by
 have h : (n + 21600000 * k) % 21600000 = n % 21600000 := by omega
 unfold foldT souB
 rw [h]
 exact ⟨rfl, rfl⟩
theorem b_shift (n k : Int) : bLo (n + 21600000 * k) = bLo n ∧ bHi (n + 21600000 * k) = bHi n := by
 obtain ⟨h1, h2⟩ := fold_shift n k
 rw [bLo_at, bLo_at, bHi_at, bHi_at, h1, h2]
 exact ⟨rfl, rfl⟩
theorem bb_le (n : Int) : bLo n ≤ bHi n ∧ -1073741824 ≤ bLo n ∧ bHi n ≤ 1073741824 := by
 have h := hiQ_in (foldT_le n)
 rw [bLo_at, bHi_at]
 split <;> omega
theorem b_one {n : Int} (h0 : 0 ≤ n) (h1 : n ≤ 5400000) : bLo n = (sinQ n.toNat : Int) ∧ bHi n = hiQ n.toNat := by
 have e : n % 21600000 = n := by omega
 rw [bLo_at, bHi_at]
 unfold souB foldT
 rw [e, decide_eq_false (show ¬ 10800000 < n by omega), if_neg (show ¬ (false = true) by decide), if_neg (show ¬ (false = true) by decide), if_neg (show ¬ 10800000 < n by omega), if_neg (show ¬ 5400000 < n by omega)]
 exact ⟨rfl, rfl⟩
theorem b_two {n : Int} (h0 : 5400000 ≤ n) (h1 : n ≤ 10800000) : bLo n = (sinQ (10800000 - n).toNat : Int) ∧ bHi n = hiQ (10800000 - n).toNat := by
 by_cases h2 : n = 5400000
 ·subst h2; exact b_one (by decide) (by decide)
 have e : n % 21600000 = n := by omega
 rw [bLo_at, bHi_at]
 unfold souB foldT
 rw [e, decide_eq_false (show ¬ 10800000 < n by omega), if_neg (show ¬ (false = true) by decide), if_neg (show ¬ (false = true) by decide), if_neg (show ¬ 10800000 < n by omega), if_pos (show 5400000 < n by omega)]
 exact ⟨rfl, rfl⟩
theorem b_three {n : Int} (h0 : 10800000 ≤ n) (h1 : n ≤ 16200000) : bLo n = -hiQ (n - 10800000).toNat ∧ bHi n = -(sinQ (n - 10800000).toNat : Int) := by
 by_cases h2 : n = 10800000
 ·subst h2
  have h3 := b_two (n := 10800000) (by decide) (by decide)
  rw [h3.1, h3.2]
  have h4 : hiQ 0 = 0 := by unfold hiQ; rw [sinQ_0, oneQ_at, if_pos (by decide)]; rfl
  show ((sinQ 0 : Nat) : Int) = - hiQ 0 ∧ hiQ 0 = -((sinQ 0 : Nat) : Int)
  rw [h4, sinQ_0]
  decide
 have e : n % 21600000 = n := by omega
 rw [bLo_at, bHi_at]
 unfold souB foldT
 rw [e, decide_eq_true (show 10800000 < n by omega), if_pos rfl, if_pos rfl, if_pos (show 10800000 < n by omega), if_neg (show ¬ 16200000 < n by omega)]
 exact ⟨rfl, rfl⟩
theorem b_four {n : Int} (h0 : -5400000 ≤ n) (h1 : n ≤ 0) : bLo n = -hiQ (-n).toNat ∧ bHi n = -(sinQ (-n).toNat : Int) := by
 have hs := b_shift n 1
 rw [← hs.1, ← hs.2]
 by_cases h2 : n = 0
 ·subst h2
  have h3 := b_one (n := 0) (by decide) (by decide)
  have h5 := b_shift 0 1
  rw [h5.1, h5.2, h3.1, h3.2]
  have h4 : hiQ 0 = 0 := by unfold hiQ; rw [sinQ_0, oneQ_at, if_pos (by decide)]; rfl
  show ((sinQ 0 : Nat) : Int) = - hiQ 0 ∧ hiQ 0 = -((sinQ 0 : Nat) : Int)
  rw [h4, sinQ_0]
  decide
 by_cases h3 : n = -5400000
 ·subst h3
  have := b_three (n := 16200000) (by decide) (by decide)
  exact this
 have e : (n + 21600000 * 1) % 21600000 = n + 21600000 := by omega
 rw [bLo_at, bHi_at]
 unfold souB foldT
 rw [e, decide_eq_true (by omega), if_pos rfl, if_pos rfl, if_pos (by omega), if_pos (by omega)]
 rw [show (21600000 - (n + 21600000)).toNat = (-n).toNat by omega]
 exact ⟨rfl, rfl⟩
theorem b_up {a b : Int} (h0 : -5400000 ≤ a) (h : a ≤ b) (h1 : b ≤ 5400000) : bLo a ≤ bLo b ∧ bHi a ≤ bHi b := by
 by_cases ha : 0 ≤ a
 ·have e1 := b_one ha (by omega)
  have e2 := b_one (n := b) (by omega) h1
  rw [e1.1, e1.2, e2.1, e2.2]
  have m1 := sinQ_mono (a := a.toNat) (b := b.toNat) (by omega) (by omega)
  have m2 := hiQ_mono (a := a.toNat) (b := b.toNat) (by omega) (by omega)
  omega
 ·have e1 := b_four h0 (by omega)
  have p1 := hiQ_in (n := (-a).toNat) (by omega)
  by_cases hb : 0 ≤ b
  ·have e2 := b_one hb h1
   have p2 := hiQ_in (n := b.toNat) (by omega)
   rw [e1.1, e1.2, e2.1, e2.2]
   omega
  ·have e2 := b_four (n := b) (by omega) (by omega)
   rw [e1.1, e1.2, e2.1, e2.2]
   have m1 := sinQ_mono (a := (-b).toNat) (b := (-a).toNat) (by omega) (by omega)
   have m2 := hiQ_mono (a := (-b).toNat) (b := (-a).toNat) (by omega) (by omega)
   omega
theorem b_down {a b : Int} (h0 : 5400000 ≤ a) (h : a ≤ b) (h1 : b ≤ 16200000) : bLo b ≤ bLo a ∧ bHi b ≤ bHi a := by
 by_cases hb : b ≤ 10800000
 ·have e1 := b_two h0 (by omega)
  have e2 := b_two (n := b) (by omega) hb
  rw [e1.1, e1.2, e2.1, e2.2]
  have m1 := sinQ_mono (a := (10800000 - b).toNat) (b := (10800000 - a).toNat) (by omega) (by omega)
  have m2 := hiQ_mono (a := (10800000 - b).toNat) (b := (10800000 - a).toNat) (by omega) (by omega)
  omega
 ·have e2 := b_three (n := b) (by omega) h1
  have p1 := hiQ_in (n := (b - 10800000).toNat) (by omega)
  by_cases ha : a ≤ 10800000
  ·have e1 := b_two h0 ha
   have p2 := hiQ_in (n := (10800000 - a).toNat) (by omega)
   rw [e1.1, e1.2, e2.1, e2.2]
   omega
  ·have e1 := b_three (n := a) (by omega) (by omega)
   rw [e1.1, e1.2, e2.1, e2.2]
   have m1 := sinQ_mono (a := (a - 10800000).toNat) (b := (b - 10800000).toNat) (by omega) (by omega)
   have m2 := hiQ_mono (a := (a - 10800000).toNat) (b := (b - 10800000).toNat) (by omega) (by omega)
   omega
theorem b_between {lo hi z : Int} (h1 : lo ≤ z) (h2 : z ≤ hi) (hm : metB lo hi 16200000 = false) : mn (bLo lo) (bLo hi) ≤ bLo z ∧ mn (bHi lo) (bHi hi) ≤ bHi z := by
 unfold metB at hm
 have hm := of_decide_eq_false hm
 obtain ⟨k, hk⟩ : ∃ k, k = (lo + 5400000) / 21600000 := ⟨_, rfl⟩
 have s1 := b_shift lo (-k)
 have s2 := b_shift hi (-k)
 have s3 := b_shift z (-k)
 rw [← s1.1, ← s1.2, ← s2.1, ← s2.2, ← s3.1, ← s3.2]
 have q1 : -5400000 ≤ lo + 21600000 * -k := by omega
 have q2 : hi + 21600000 * -k ≤ 16200000 := by omega
 have q3 : lo + 21600000 * -k ≤ z + 21600000 * -k := by omega
 have q4 : z + 21600000 * -k ≤ hi + 21600000 * -k := by omega
 clear s1 s2 s3 hk hm h1 h2
 generalize lo + 21600000 * -k = x at *
 generalize hi + 21600000 * -k = y at *
 generalize z + 21600000 * -k = u at *
 rw [mn_eq, mn_eq]
 by_cases hu : u ≤ 5400000
 ·have := b_up q1 q3 hu
  omega
 ·have := b_down (a := u) (b := y) (by omega) q4 q2
  omega
theorem b_betw2 {lo hi z : Int} (h1 : lo ≤ z) (h2 : z ≤ hi) (hm : metB lo hi 5400000 = false) : bLo z ≤ mx (bLo lo) (bLo hi) ∧ bHi z ≤ mx (bHi lo) (bHi hi) := by
 unfold metB at hm
 have hm := of_decide_eq_false hm
 obtain ⟨k, hk⟩ : ∃ k, k = (lo - 5400000) / 21600000 := ⟨_, rfl⟩
 have s1 := b_shift lo (-k)
 have s2 := b_shift hi (-k)
 have s3 := b_shift z (-k)
 rw [← s1.1, ← s1.2, ← s2.1, ← s2.2, ← s3.1, ← s3.2]
 have q1 : 5400000 ≤ lo + 21600000 * -k := by omega
 have q2 : hi + 21600000 * -k ≤ 27000000 := by omega
 have q3 : lo + 21600000 * -k ≤ z + 21600000 * -k := by omega
 have q4 : z + 21600000 * -k ≤ hi + 21600000 * -k := by omega
 clear s1 s2 s3 hk hm h1 h2
 generalize lo + 21600000 * -k = x at *
 generalize hi + 21600000 * -k = y at *
 generalize z + 21600000 * -k = u at *
 rw [mx_eq, mx_eq]
 by_cases hu : u ≤ 16200000
 ·have := b_down q1 q3 hu
  omega
 ·have e1 := b_shift u (-1)
  have e2 := b_shift y (-1)
  have := b_up (a := u + 21600000 * -1) (b := y + 21600000 * -1) (by omega) (by omega) (by omega)
  rw [e1.1, e1.2, e2.1, e2.2] at this
  omega
theorem met_part {lo hi x y n : Int} (h1 : lo ≤ x) (h3 : y ≤ hi) (hm : metB x y n = true) (h2 : x ≤ y) : metB lo hi n = true := by
 unfold metB at *
 have hm := of_decide_eq_true hm
 refine decide_eq_true ?_
 omega
theorem encL_at (lo hi : Int) : encL lo hi = if metB lo hi 16200000 then -1073741824 else mn (bLo lo) (bLo hi) := by unfold encL; rfl
theorem encH_at (lo hi : Int) : encH lo hi = if metB lo hi 5400000 then 1073741824 else mx (bHi lo) (bHi hi) := by unfold encH; rfl
theorem enc_in {lo hi : Int} : -1073741824 ≤ encL lo hi ∧ encL lo hi ≤ encH lo hi ∧ encH lo hi ≤ 1073741824 := by
 have h1 := bb_le lo
 have h2 := bb_le hi
 rw [encL_at, encH_at, mn_eq, mx_eq]
 split <;> split <;> omega
theorem enc_part {lo hi x y : Int} (h1 : lo ≤ x) (h2 : x ≤ y) (h3 : y ≤ hi) : encL lo hi ≤ encL x y ∧ encH x y ≤ encH lo hi := by
 constructor
 ·have h4 := (enc_in (lo := x) (hi := y)).1
  rw [encL_at lo hi]
  cases hm : metB lo hi 16200000
  ·rw [if_neg (by decide), encL_at]
   have hm2 : metB x y 16200000 = false := by
    cases h5 : metB x y 16200000
    ·rfl
    ·rw [met_part h1 h3 h5 h2] at hm; cases hm
   rw [hm2, if_neg (by decide)]
   have p := (b_between (z := x) h1 (by omega) hm).1
   have q := (b_between (z := y) (by omega) h3 hm).1
   rw [mn_eq (bLo x)]
   omega
  ·rw [if_pos rfl]; exact h4
 ·have h4 := (enc_in (lo := x) (hi := y)).2.2
  rw [encH_at lo hi]
  cases hm : metB lo hi 5400000
  ·rw [if_neg (by decide), encH_at]
   have hm2 : metB x y 5400000 = false := by
    cases h5 : metB x y 5400000
    ·rfl
    ·rw [met_part h1 h3 h5 h2] at hm; cases hm
   rw [hm2, if_neg (by decide)]
   have p := (b_betw2 (z := x) h1 (by omega) hm).2
   have q := (b_betw2 (z := y) (by omega) h3 hm).2
   rw [mx_eq (bHi x)]
   omega
  ·rw [if_pos rfl]; exact h4
def belI (n v : Int) : Int := if bHi n ≤ v ∧ bLo n < v then -1 else if v ≤ bLo n ∧ v < bHi n then 1 else if v = bLo n then 0 else if v < bLo n then 1 else -1
theorem bHi_one (n : Int) : bHi n ≤ bLo n + 1 := by
 have h := oneQ_in (foldT n)
 unfold bHi bLo
 split <;> omega
theorem belI_iff (n v : Int) : belI n v ≤ 0 ↔ bHi n ≤ v := by
 have h1 := (bb_le n).1
 have h2 := bHi_one n
 unfold belI
 split
 ·omega
 ·split
  ·omega
  ·split
   ·omega
   ·split <;> omega
theorem b_bot : bHi (-5400000) = -1073741824 := by
 have h := (b_four (n := -5400000) (by decide) (by decide)).2
 rw [h, show (-(-5400000 : Int)).toNat = 5400000 from rfl, sinQ_q]; rfl
theorem b_topp : bHi 5400000 = 1073741824 := by
 have h := (b_one (n := 5400000) (by decide) (by decide)).2
 rw [h, show ((5400000 : Int)).toNat = 5400000 from rfl]
 unfold hiQ oneQ
 rw [sinQ_q]; rfl
structure IsAsn (v r : Int) : Prop where
 lo : -5400000 ≤ r
 hi : r ≤ 5400000
 le : bHi r ≤ v
 gt : r = 5400000 ∨ v < bHi (r + 1)
theorem IsAsn.uniq {v r s : Int} (h : IsAsn v r) (g : IsAsn v s) : r = s := by
 obtain ⟨a1, a2, a3, a4⟩ := h
 obtain ⟨b1, b2, b3, b4⟩ := g
 rcases Int.lt_trichotomy r s with h | h | h
 ·have := (b_up (a := r + 1) (b := s) (by omega) (by omega) b2).2
  omega
 ·exact h
 ·have := (b_up (a := s + 1) (b := r) (by omega) (by omega) a2).2
  omega
theorem isAsn_ex {v : Int} (hv : -1073741824 ≤ v) : ∃ r, IsAsn v r := by
 have key : ∀ k : Nat, k ≤ 10800000 → (∃ r, IsAsn v r) ∨ bHi (-5400000 + k) ≤ v := by
  intro k
  induction k with
  | zero => intro _; right; rw [show (-5400000 : Int) + ((0 : Nat) : Int) = -5400000 from rfl, b_bot]; exact hv
  | succ k ih =>
   intro hk
   rcases ih (by omega) with h | h
   ·exact .inl h
   ·by_cases c : bHi (-5400000 + ((k + 1 : Nat) : Int)) ≤ v
    ·exact .inr c
    ·refine .inl ⟨-5400000 + (k : Int), by omega, by omega, h, .inr ?_⟩
     rw [show (-5400000 : Int) + (k : Int) + 1 = -5400000 + ((k + 1 : Nat) : Int) by omega]
     omega
 rcases key 10800000 (Nat.le_refl _) with h | h
 ·exact h
 ·exact ⟨5400000, by decide, by decide, h, .inl rfl⟩
noncomputable def asnI (v : Int) : Int := by
 classical
 exact if h : ∃ r, IsAsn v r then h.choose else 0
theorem asnI_is {v : Int} (hv : -1073741824 ≤ v) : IsAsn v (asnI v) := by
 have h := isAsn_ex hv
 unfold asnI
 rw [dif_pos h]
 exact h.choose_spec
theorem asnI_eq {v r : Int} (h : IsAsn v r) : asnI v = r := by
 have hv : -1073741824 ≤ v := by
  have h1 := (bb_le r).2.1
  have h2 := (bb_le r).1
  have := h.le
  omega
 exact (asnI_is hv).uniq h
theorem asnI_in {v : Int} (hv : -1073741824 ≤ v) : -5400000 ≤ asnI v ∧ asnI v ≤ 5400000 := ⟨(asnI_is hv).lo, (asnI_is hv).hi⟩
theorem asnI_ge {v n : Int} (h0 : -5400000 ≤ n) (h1 : n ≤ 5400000) (h : bHi n ≤ v) : n ≤ asnI v := by
 have hv : -1073741824 ≤ v := by
  have a1 := (bb_le n).2.1
  have a2 := (bb_le n).1
  omega
 obtain ⟨a1, a2, a3, a4⟩ := asnI_is hv
 rcases a4 with a4 | a4
 ·omega
 ·rcases (show asnI v < n ∨ n ≤ asnI v by omega) with h2 | h2
  ·have := (b_up (a := asnI v + 1) (b := n) (by omega) (by omega) h1).2
   omega
  ·exact h2
theorem asnI_mono {v u : Int} (hv : -1073741824 ≤ v) (h : v ≤ u) : asnI v ≤ asnI u := by
 obtain ⟨a1, a2, a3, a4⟩ := asnI_is hv
 exact asnI_ge a1 a2 (by omega)
theorem asnI_lt {v n : Int} (hv : -1073741824 ≤ v) (h0 : -5400000 ≤ n) (h : v < bHi n) : asnI v < n := by
 obtain ⟨a1, a2, a3, a4⟩ := asnI_is hv
 rcases (show asnI v < n ∨ n ≤ asnI v by omega) with h2 | h2
 ·exact h2
 ·have := (b_up (a := n) (b := asnI v) h0 h2 a2).2
  omega
def asE (lo hi : Int) : Int := if (decide (lo ≤ hi ∧ -2147483648 ≤ lo ∧ hi ≤ 2147483648)) = false then 1 else if mn hi 1073741824 < mx lo (-1073741824) then 2 else 0
noncomputable def asL (lo hi : Int) : Int := if asE lo hi = 0 then asnI (mx lo (-1073741824)) else 0
noncomputable def asH (lo hi : Int) : Int := if asE lo hi = 0 then -(asnI (-(mn hi 1073741824))) else 0
end Go.Proofs.YtcbicpbbjbkiaaaGreatDoor
namespace Go.Proofs.YtcbicpbbjbkiaaaGreatDoor
open Go.RowKit

def m4 (a0 a1 b0 b1 : Int) : Int := mn (mn (mn (a0 * b0) (a0 * b1)) (a1 * b0)) (a1 * b1)
def x4 (a0 a1 b0 b1 : Int) : Int := mx (mx (mx (a0 * b0) (a0 * b1)) (a1 * b0)) (a1 * b1)
theorem mn4_is (x y z u : Int) : (mn (mn (mn x y) z) u ≤ x ∧ mn (mn (mn x y) z) u ≤ y ∧ mn (mn (mn x y) z) u ≤ z ∧ mn (mn (mn x y) z) u ≤ u) ∧ (mn (mn (mn x y) z) u = x ∨ mn (mn (mn x y) z) u = y ∨ mn (mn (mn x y) z) u = z ∨ mn (mn (mn x y) z) u = u) := by
 simp only [mn_eq]; omega
theorem mx4_is (x y z u : Int) : (x ≤ mx (mx (mx x y) z) u ∧ y ≤ mx (mx (mx x y) z) u ∧ z ≤ mx (mx (mx x y) z) u ∧ u ≤ mx (mx (mx x y) z) u) ∧ (mx (mx (mx x y) z) u = x ∨ mx (mx (mx x y) z) u = y ∨ mx (mx (mx x y) z) u = z ∨ mx (mx (mx x y) z) u = u) := by
 simp only [mx_eq]; omega
theorem lin1 {a0 a1 x k : Int} (h0 : a0 ≤ x) (h1 : x ≤ a1) : (a0 * k ≤ x * k ∨ a1 * k ≤ x * k) ∧ (x * k ≤ a0 * k ∨ x * k ≤ a1 * k) := by
 rcases Int.le_total 0 k with h | h
 ·exact ⟨.inl (Int.mul_le_mul_of_nonneg_right h0 h), .inr (Int.mul_le_mul_of_nonneg_right h1 h)⟩
 ·exact ⟨.inr (Int.mul_le_mul_of_nonpos_right h1 h), .inl (Int.mul_le_mul_of_nonpos_right h0 h)⟩
theorem box_mul {a0 a1 b0 b1 x y : Int} (h0 : a0 ≤ x) (h1 : x ≤ a1) (g0 : b0 ≤ y) (g1 : y ≤ b1) : m4 a0 a1 b0 b1 ≤ x * y ∧ x * y ≤ x4 a0 a1 b0 b1 := by
 obtain ⟨e1, e2⟩ := lin1 (k := y) h0 h1
 obtain ⟨f1, f2⟩ := lin1 (k := a0) g0 g1
 obtain ⟨i1, i2⟩ := lin1 (k := a1) g0 g1
 rw [Int.mul_comm b0 a0, Int.mul_comm b1 a0, Int.mul_comm y a0] at f1 f2
 rw [Int.mul_comm b0 a1, Int.mul_comm b1 a1, Int.mul_comm y a1] at i1 i2
 have hm := (mn4_is (a0 * b0) (a0 * b1) (a1 * b0) (a1 * b1)).1
 have hx := (mx4_is (a0 * b0) (a0 * b1) (a1 * b0) (a1 * b1)).1
 unfold m4 x4
 omega
theorem box_part {a0 a1 b0 b1 c0 c1 d0 d1 : Int} (h0 : a0 ≤ c0) (h : c0 ≤ c1) (h1 : c1 ≤ a1) (g0 : b0 ≤ d0) (g : d0 ≤ d1) (g1 : d1 ≤ b1) : m4 a0 a1 b0 b1 ≤ m4 c0 c1 d0 d1 ∧ x4 c0 c1 d0 d1 ≤ x4 a0 a1 b0 b1 := by
 have p1 := box_mul (a0 := a0) (a1 := a1) (b0 := b0) (b1 := b1) (x := c0) (y := d0) h0 (by omega) g0 (by omega)
 have p2 := box_mul (a0 := a0) (a1 := a1) (b0 := b0) (b1 := b1) (x := c0) (y := d1) h0 (by omega) (show b0 ≤ d1 by omega) g1
 have p3 := box_mul (a0 := a0) (a1 := a1) (b0 := b0) (b1 := b1) (x := c1) (y := d0) (show a0 ≤ c1 by omega) h1 g0 (by omega)
 have p4 := box_mul (a0 := a0) (a1 := a1) (b0 := b0) (b1 := b1) (x := c1) (y := d1) (show a0 ≤ c1 by omega) h1 (show b0 ≤ d1 by omega) g1
 have hm := (mn4_is (c0 * d0) (c0 * d1) (c1 * d0) (c1 * d1)).2
 have hx := (mx4_is (c0 * d0) (c0 * d1) (c1 * d0) (c1 * d1)).2
 constructor
 ·show m4 a0 a1 b0 b1 ≤ mn (mn (mn (c0 * d0) (c0 * d1)) (c1 * d0)) (c1 * d1); omega
 ·show mx (mx (mx (c0 * d0) (c0 * d1)) (c1 * d0)) (c1 * d1) ≤ x4 a0 a1 b0 b1; omega
theorem prod_in {X x k : Int} (h0 : 0 ≤ X) (hX : -X ≤ x ∧ x ≤ X) (hK : -X ≤ k ∧ k ≤ X) : -(X * X) ≤ x * k ∧ x * k ≤ X * X := by
 have h1 : (x * k).natAbs ≤ X.natAbs * X.natAbs := by rw [Int.natAbs_mul]; exact Nat.mul_le_mul (by omega) (by omega)
 have h2 : ((X.natAbs * X.natAbs : Nat) : Int) = X * X := by rw [Int.natCast_mul, Int.natAbs_of_nonneg h0]
 rw [← h2]
 omega
theorem box_in {X a0 a1 b0 b1 : Int} (h0 : 0 ≤ X) (ha : -X ≤ a0 ∧ a0 ≤ X) (ha1 : -X ≤ a1 ∧ a1 ≤ X) (hb : -X ≤ b0 ∧ b0 ≤ X) (hb1 : -X ≤ b1 ∧ b1 ≤ X) : -(X * X) ≤ m4 a0 a1 b0 b1 ∧ m4 a0 a1 b0 b1 ≤ x4 a0 a1 b0 b1 ∧ x4 a0 a1 b0 b1 ≤ X * X := by
 have p1 := prod_in h0 ha hb
 have p2 := prod_in h0 ha hb1
 have p3 := prod_in h0 ha1 hb
 have p4 := prod_in h0 ha1 hb1
 have hm := mn4_is (a0 * b0) (a0 * b1) (a1 * b0) (a1 * b1)
 have hx := mx4_is (a0 * b0) (a0 * b1) (a1 * b0) (a1 * b1)
 unfold m4 x4
 omega
def mulL (a0 a1 b0 b1 : Int) : Int := m4 a0 a1 b0 b1 / 1073741824
def mulH (a0 a1 b0 b1 : Int) : Int := -((-(x4 a0 a1 b0 b1)) / 1073741824)
theorem mul_unit {a0 a1 b0 b1 : Int} (ha : -1073741824 ≤ a0) (ha1 : a0 ≤ a1) (ha2 : a1 ≤ 1073741824) (hb : -1073741824 ≤ b0) (hb1 : b0 ≤ b1) (hb2 : b1 ≤ 1073741824) :
  -1073741824 ≤ mulL a0 a1 b0 b1 ∧ mulL a0 a1 b0 b1 ≤ mulH a0 a1 b0 b1 ∧ mulH a0 a1 b0 b1 ≤ 1073741824 := by
 have h := box_in (X := 1073741824) (by decide) (a0 := a0) (a1 := a1) (b0 := b0) (b1 := b1) ⟨ha, by omega⟩ ⟨by omega, ha2⟩ ⟨hb, by omega⟩ ⟨by omega, hb2⟩
 unfold mulL mulH
 omega
theorem mul_part {a0 a1 b0 b1 c0 c1 d0 d1 : Int} (h0 : a0 ≤ c0) (h : c0 ≤ c1) (h1 : c1 ≤ a1) (g0 : b0 ≤ d0) (g : d0 ≤ d1) (g1 : d1 ≤ b1) : mulL a0 a1 b0 b1 ≤ mulL c0 c1 d0 d1 ∧ mulH c0 c1 d0 d1 ≤ mulH a0 a1 b0 b1 := by
 have := box_part h0 h h1 g0 g g1
 unfold mulL mulH
 omega
theorem mul_pos {a0 a1 b0 b1 : Int} (h0 : 0 ≤ a0) (h : a0 ≤ a1) (g0 : 0 ≤ b0) (g : b0 ≤ b1) : 0 ≤ mulL a0 a1 b0 b1 := by
 have p1 := Int.mul_nonneg h0 g0
 have p2 := Int.mul_nonneg h0 (show 0 ≤ b1 by omega)
 have p3 := Int.mul_nonneg (show 0 ≤ a1 by omega) g0
 have p4 := Int.mul_nonneg (show 0 ≤ a1 by omega) (show 0 ≤ b1 by omega)
 have hm := (mn4_is (a0 * b0) (a0 * b1) (a1 * b0) (a1 * b1)).2
 unfold mulL m4
 omega
theorem mul_neg {a0 a1 b0 b1 : Int} (h0 : 0 ≤ a0) (h : a0 ≤ a1) (g0 : b0 ≤ b1) (g : b1 ≤ 0) : mulH a0 a1 b0 b1 ≤ 0 := by
 have p1 := Int.mul_nonpos_of_nonneg_of_nonpos h0 (show b0 ≤ 0 by omega)
 have p2 := Int.mul_nonpos_of_nonneg_of_nonpos h0 g
 have p3 := Int.mul_nonpos_of_nonneg_of_nonpos (show 0 ≤ a1 by omega) (show b0 ≤ 0 by omega)
 have p4 := Int.mul_nonpos_of_nonneg_of_nonpos (show 0 ≤ a1 by omega) g
 have hx := (mx4_is (a0 * b0) (a0 * b1) (a1 * b0) (a1 * b1)).2
 unfold mulH x4
 omega
end Go.Proofs.YtcbicpbbjbkiaaaGreatDoor
namespace Go.Proofs.YtcbicpbbjbkiaaaGreatDoor
set_option maxRecDepth 100000
open Go.RowKit

section
variable {P : Program} {w : World}
theorem run_mn4 (ts : Array TypeId) (t : TypeId) (k k' k'' k3 : IntKind) (x y z u : Int) : (Builtin.min_ ts t #[.int k x, .int k' y, .int k'' z, .int k3 u]).run P w = .ok (.int k (mn (mn (mn x y) z) u)) w := by
 simp [Builtin.min_, Builtin.min2, mn]
 rfl
theorem run_mx4 (ts : Array TypeId) (t : TypeId) (k k' k'' k3 : IntKind) (x y z u : Int) : (Builtin.max_ ts t #[.int k x, .int k' y, .int k'' z, .int k3 u]).run P w = .ok (.int k (mx (mx (mx x y) z) u)) w := by
 simp [Builtin.max_, Builtin.max2, mx]
 rfl
end
attribute [go_sem ↓] run_mn4 run_mx4
def fxB (lo hi : Int) : Bool := decide (lo ≤ hi ∧ -2147483648 ≤ lo ∧ hi ≤ 2147483648)
theorem fxB_iff {lo hi : Int} : fxB lo hi = true ↔ lo ≤ hi ∧ -2147483648 ≤ lo ∧ hi ≤ 2147483648 := by simp [fxB]
theorem fx_ValidG (lo hi : Int) (w : World) :
  Calls Tryz.prog 103 #[(.agg #[.int .i64 (lo), .int .i64 (hi)])] w fun e w' => e = .returned (.bool (fxB lo hi)) ∧ ∃ d, w' = bw w d := by
 refine lay_start ?_
 go_enter Tryz.func103, Tryz.ntmps103
 go_wp2
 all_goals go_ret
 all_goals exact ⟨ret_bool (by rw [Bool.eq_iff_iff]; simp [fxB]; omega), lay_ex _ _⟩
theorem fx_bothG (a b c d : Int) (w : World) :
  Calls Tryz.prog 188 #[(.agg #[.int .i64 (a), .int .i64 (b)]), (.agg #[.int .i64 (c), .int .i64 (d)])] w fun e w' => e = .returned (.bool (fxB a b && fxB c d)) ∧ ∃ d, w' = bw w d := by
 have H1 := Lib.hid (fun W => fx_ValidG a b W)
 have H2 := Lib.hid (fun W => fx_ValidG c d W)
 generalize fxB a b = x at *
 generalize fxB c d = y at *
 cases x <;> cases y
 all_goals
  refine lay_start ?_
  go_enter Tryz.func188, Tryz.ntmps188
  go_wp2_with (go_at_call 103; first | (with_reducible refine (H1.out _).mono ?_; rintro e w' ⟨rfl, d1, rfl⟩) | (with_reducible refine (H2.out _).mono ?_; rintro e w' ⟨rfl, d2, rfl⟩))
  go_ret
  exact ⟨rfl, lay_ex _ _⟩
theorem fx_floorG (a b : Int) (w : World) (hb : 1 ≤ b) (h1 : -9223372036854775807 ≤ a) (h2 : a ≤ 9223372036854775807) :
  Calls Tryz.prog 190 #[.int .i64 a, .int .i64 b] w fun e w' => e = .returned (.int .i64 (a / b)) ∧ w' = w := by
 have hb0 : ¬ b < 0 := by omega
 by_cases hr : a.tmod b < 0
 ·have e0 := floor_neg hb hr
  have hbd := ediv_bd hb 9223372036854775807 (by decide) h1 h2
  have hk : IntKind.i64.wrap (a / b) = a / b := IntWalk.i64_in _ (by omega)
  obtain ⟨q, hq⟩ : ∃ q, a / b = q := ⟨_, rfl⟩
  rw [hq] at e0 hk ⊢
  have ha : a < 0 := by
   rcases Int.lt_or_le a 0 with h | h
   ·exact h
   ·rw [Int.tmod_eq_emod_of_nonneg h] at hr; have := Int.emod_nonneg a (show b ≠ 0 by omega); omega
  have hz : (a.tmod b != 0) = true := bne_iff_ne.2 (by omega)
  go_enter Tryz.func190, Tryz.ntmps190
  go_wp2_with fail
  go_ret
  exact ⟨rfl, rfl⟩
 ·have e0 := floor_pos (a := a) hb (by omega)
  obtain ⟨q, hq⟩ : ∃ q, a / b = q := ⟨_, rfl⟩
  have hbd := ediv_bd hb 9223372036854775807 (by decide) h1 h2
  have hk : IntKind.i64.wrap (a / b) = a / b := IntWalk.i64_in _ (by omega)
  rw [hq] at e0 hk ⊢
  by_cases ha : a < 0
  ·have hz : (a.tmod b != 0) = false := by
    have h3 : a.tmod b = -((-a) % b) := by
     have := Int.neg_tmod (a := -a) (b := b)
     rw [Int.neg_neg] at this
     rw [this, Int.tmod_eq_emod_of_nonneg (by omega)]
    have h4 := Int.emod_nonneg (-a) (show b ≠ 0 by omega)
    have : a.tmod b = 0 := by omega
    rw [this]; rfl
   go_enter Tryz.func190, Tryz.ntmps190
   go_wp2_with fail
   go_ret
   exact ⟨rfl, rfl⟩
  ·go_enter Tryz.func190, Tryz.ntmps190
   go_wp2_with fail
   all_goals
    go_ret
    exact ⟨rfl, rfl⟩
theorem fx_ceilG (a b : Int) (w : World) (hb : 1 ≤ b) (h1 : -9223372036854775807 ≤ a) (h2 : a ≤ 9223372036854775807) :
  Calls Tryz.prog 191 #[.int .i64 a, .int .i64 b] w fun e w' => e = .returned (.int .i64 (-((-a) / b))) ∧ w' = w := by
 have HF := Lib.hid (fun W => fx_floorG (-a) b W hb (by omega) (by omega))
 have k1 : IntKind.i64.wrap (-a) = -a := IntWalk.i64_in _ (by omega)
 have hbd := ediv_bd hb 9223372036854775807 (by decide) (show -9223372036854775807 ≤ -a by omega) (by omega)
 have k2 : IntKind.i64.wrap (-((-a) / b)) = -((-a) / b) := IntWalk.i64_in _ (by omega)
 obtain ⟨m, hm⟩ : ∃ m, -a = m := ⟨_, rfl⟩
 rw [hm] at HF k1 k2 hbd ⊢
 obtain ⟨q, hq⟩ : ∃ q, m / b = q := ⟨_, rfl⟩
 rw [hq] at HF k2 hbd ⊢
 obtain ⟨r, hr⟩ : ∃ r, -q = r := ⟨_, rfl⟩
 rw [hr] at k2 ⊢
 clear hbd hq h1 h2
 go_enter Tryz.func191, Tryz.ntmps191
 go_wp2_with (go_at_call 190; refine (HF.out _).mono ?_; rintro e w' ⟨rfl, rfl⟩)
 go_ret
 exact ⟨rfl, rfl⟩
theorem fx_fitG (lo hi : Int) (w : World) (h : fxB lo hi = true) :
  Calls Tryz.prog 189 #[.int .i64 lo, .int .i64 hi] w fun e w' => e = .returned (.tuple #[(.agg #[.int .i64 (lo), .int .i64 (hi)]), .int .i64 0]) ∧ ∃ d, w' = bw w d := by
 have HV := Lib.hid (fun W => fx_ValidG lo hi W)
 rw [h] at HV
 refine lay_start ?_
 go_enter Tryz.func189, Tryz.ntmps189
 go_wp2_with (go_at_call 103; refine (HV.out _).mono ?_; rintro e w' ⟨rfl, d, rfl⟩)
 exact bodyPost_ret (v := .tuple #[(.agg #[.int .i64 (lo), .int .i64 (hi)]), .int .i64 0]) (by simp [results, Tryz.results189, go_sem]) rfl ⟨rfl, lay_ex _ _⟩
set_option maxHeartbeats 1000000 in
theorem fx_MulG (a0 a1 b0 b1 : Int) (w : World) (ha : fxB a0 a1 = true) (hb : fxB b0 b1 = true) (hm : fxB (mulL a0 a1 b0 b1) (mulH a0 a1 b0 b1) = true) :
  Calls Tryz.prog 101 #[(.agg #[.int .i64 (a0), .int .i64 (a1)]), (.agg #[.int .i64 (b0), .int .i64 (b1)])] w fun e w' => e = .returned (.tuple #[(.agg #[.int .i64 (mulL a0 a1 b0 b1), .int .i64 (mulH a0 a1 b0 b1)]), .int .i64 0]) ∧ ∃ d, w' = bw w d := by
 have HB := Lib.hid (fun W => fx_bothG a0 a1 b0 b1 W)
 rw [ha, hb, Bool.and_self] at HB
 have hfa := fxB_iff.1 ha
 have hfb := fxB_iff.1 hb
 have hbx := box_in (X := 2147483648) (by decide) (a0 := a0) (a1 := a1) (b0 := b0) (b1 := b1) ⟨by omega, by omega⟩ ⟨by omega, by omega⟩ ⟨by omega, by omega⟩ ⟨by omega, by omega⟩
 have p1 := prod_in (X := 2147483648) (x := a0) (k := b0) (by decide) ⟨by omega, by omega⟩ ⟨by omega, by omega⟩
 have p2 := prod_in (X := 2147483648) (x := a0) (k := b1) (by decide) ⟨by omega, by omega⟩ ⟨by omega, by omega⟩
 have p3 := prod_in (X := 2147483648) (x := a1) (k := b0) (by decide) ⟨by omega, by omega⟩ ⟨by omega, by omega⟩
 have p4 := prod_in (X := 2147483648) (x := a1) (k := b1) (by decide) ⟨by omega, by omega⟩ ⟨by omega, by omega⟩
 have HT := Lib.hid (fun W => fx_fitG _ _ W hm)
 have HF := Lib.hid (fun W => fx_floorG (m4 a0 a1 b0 b1) 1073741824 W (by decide) (by omega) (by omega))
 have HC := Lib.hid (fun W => fx_ceilG (x4 a0 a1 b0 b1) 1073741824 W (by decide) (by omega) (by omega))
 rw [show m4 a0 a1 b0 b1 / 1073741824 = mulL a0 a1 b0 b1 from rfl] at HF
 rw [show -((-(x4 a0 a1 b0 b1)) / 1073741824) = mulH a0 a1 b0 b1 from rfl] at HC
 generalize mulL a0 a1 b0 b1 = Q at *
 generalize mulH a0 a1 b0 b1 = U at *
 have e1 : mn (mn (mn (a0 * b0) (a0 * b1)) (a1 * b0)) (a1 * b1) = m4 a0 a1 b0 b1 := rfl
 have e2 : mx (mx (mx (a0 * b0) (a0 * b1)) (a1 * b0)) (a1 * b1) = x4 a0 a1 b0 b1 := rfl
 generalize m4 a0 a1 b0 b1 = M at *
 generalize x4 a0 a1 b0 b1 = X at *
 have k1 : IntKind.i64.wrap (a0 * b0) = a0 * b0 := IntWalk.i64_in _ (by omega)
 have k2 : IntKind.i64.wrap (a0 * b1) = a0 * b1 := IntWalk.i64_in _ (by omega)
 have k3 : IntKind.i64.wrap (a1 * b0) = a1 * b0 := IntWalk.i64_in _ (by omega)
 have k4 : IntKind.i64.wrap (a1 * b1) = a1 * b1 := IntWalk.i64_in _ (by omega)
 clear hbx p1 p2 p3 p4 hfa hfb ha hb hm
 refine lay_start ?_
 go_enter Tryz.func101, Tryz.ntmps101
 go_wp2_with (go_at_call 188; refine (HB.out _).mono ?_; rintro e w' ⟨rfl, d, rfl⟩)
 refine region_bw (by kernel_rfl) (by kernel_rfl) ?_
 repeat (go_big_quiet_step ((first | fail)))
 refine wpQuiet_nil ?_
 rintro w' ⟨d, rfl⟩
 rw [lay_bw]
 go_wp2_with (first | (go_at_call 190; refine (HF.out _).mono ?_; rintro e w' ⟨rfl, rfl⟩) | (go_at_call 191; refine (HC.out _).mono ?_; rintro e w' ⟨rfl, rfl⟩) | (go_at_call 189; refine (HT.out _).mono ?_; rintro e w' ⟨rfl, d, rfl⟩))
 exact bodyPost_ret (v := .tuple #[(.agg #[.int .i64 (Q), .int .i64 (U)]), .int .i64 0]) (by simp [results, Tryz.results101, go_sem]) rfl ⟨rfl, lay_ex _ _⟩
end Go.Proofs.YtcbicpbbjbkiaaaGreatDoor
namespace Go.Proofs.YtcbicpbbjbkiaaaGreatDoor

theorem enc_point (n : Int) : encL n n = bLo n ∧ encH n n = bHi n := by
 have hd : ∀ k : Int, metB n n k = true → ∃ j : Int, n = k + 21600000 * j := fun k h => by
  unfold metB at h
  have h1 : (k - n) % 21600000 ≤ n - n := by simpa using h
  have h2 := Int.emod_nonneg (k - n) (show (21600000 : Int) ≠ 0 by decide)
  exact ⟨-((k - n) / 21600000), by omega⟩
 rw [encL_at, encH_at]
 constructor
 ·cases h : metB n n 16200000
  ·rw [if_neg (by decide), mn_eq]; omega
  ·obtain ⟨j, rfl⟩ := hd _ h
   rw [if_pos rfl, (b_shift _ _).1]
   have := (b_three (n := 16200000) (by decide) (by decide)).1
   rw [this, show ((16200000 : Int) - 10800000).toNat = 5400000 from rfl]
   unfold hiQ oneQ
   rw [sinQ_q]; rfl
 ·cases h : metB n n 5400000
  ·rw [if_neg (by decide), mx_eq]; omega
  ·obtain ⟨j, rfl⟩ := hd _ h
   rw [if_pos rfl, (b_shift _ _).2, b_topp]
theorem b_odd {n : Int} (h0 : -5400000 ≤ n) (h1 : n ≤ 5400000) : bLo (-n) = -(bHi n) ∧ bHi (-n) = -(bLo n) := by
 by_cases h : 0 ≤ n
 ·have e1 := b_one h h1
  have e2 := b_four (n := -n) (by omega) (by omega)
  rw [Int.neg_neg] at e2
  rw [e1.1, e1.2, e2.1, e2.2]
  exact ⟨rfl, rfl⟩
 ·have e1 := b_one (n := -n) (by omega) (by omega)
  have e2 := b_four (n := n) (by omega) (by omega)
  rw [e1.1, e1.2, e2.1, e2.2]
  omega
theorem b_strict {n : Int} (h0 : -5400000 ≤ n) (h1 : n < 5400000) : bLo n < bHi (n + 1) := by
 have hm := b_up (a := n) (b := n + 1) h0 (by omega) (by omega)
 have hx : ∀ k : Int, -5400000 ≤ k → k ≤ 5400000 → bHi k = bLo k + 1 ∨ (k = 0 ∨ k = 1800000 ∨ k = 5400000 ∨ k = -1800000 ∨ k = -5400000) := fun k g0 g1 => by
  by_cases hk : 0 ≤ k
  ·have e := b_one hk g1
   have e2 := oneQ_at k.toNat
   unfold hiQ at e
   rw [e.1, e.2]
   by_cases c : k.toNat = 0 ∨ k.toNat = 1800000 ∨ k.toNat = 5400000
   ·right; omega
   ·left; rw [e2, if_neg c]
  ·have e := b_four (n := k) g0 (by omega)
   have e2 := oneQ_at (-k).toNat
   unfold hiQ at e
   rw [e.1, e.2]
   by_cases c : (-k).toNat = 0 ∨ (-k).toNat = 1800000 ∨ (-k).toNat = 5400000
   ·right; omega
   ·left; rw [e2, if_neg c]; omega
 rcases hx (n + 1) (by omega) (by omega) with h | h
 ·omega
 ·rcases hx n h0 (by omega) with g | g
  ·omega
  ·omega
theorem asn_sum {y : Int} (h0 : -1073741824 ≤ y) (h1 : y ≤ 1073741824) : asnI y + asnI (-y) ≤ 0 := by
 obtain ⟨a1, a2, a3, a4⟩ := asnI_is h0
 have hv : -1073741824 ≤ -y := by omega
 have hb := b_odd (n := asnI y) a1 a2
 have hi := asnI_in hv
 by_cases h : asnI y = -5400000
 ·omega
 ·have hs := b_strict (n := -(asnI y)) (by omega) (by omega)
  have := asnI_lt hv (n := -(asnI y) + 1) (by omega) (by omega)
  omega
end Go.Proofs.YtcbicpbbjbkiaaaGreatDoor
namespace Go.Proofs.YtcbicpbbjbkiaaaGreatDoor
open Go.RowKit

theorem thirdS_ab : (2 * evI lisS 1800000 - facW).natAbs * 1267650600228229401496703205376 ≤ 2 * facW := by decide +kernel
theorem sin_third : Nr (sinT 1800000) (1 / 2) eps := by
 have h2 : sinT 1800000 * (facW : Rat) = ((evI lisS 1800000 : Int) : Rat) := lisS_ok 1800000
 have hM := eps_of (M := (2 * evI lisS 1800000 - facW).natAbs) (W := 2 * facW) thirdS_ab
 have hW := facW_rat
 refine nr_of_int (W := 2 * (facW : Rat)) (x := 2 * evI lisS 1800000 - facW) (by grind) ?_ (Nat.le_refl _) (by push_cast at hM; exact hM)
 rw [show (sinT 1800000 - 1 / 2) * (2 * (facW : Rat)) = 2 * (sinT 1800000 * (facW : Rat)) - (facW : Rat) by grind, h2]
 generalize evI lisS 1800000 = u
 push_cast
 rfl
def e60 : Rat := 1 / 73786976294838206464
theorem near60 {r : Nat} (h : r ≤ 2700000) : 64 * (r : Rat) / k96 ≤ 1 / 442721857769029238784 := by
 have hr : (r : Rat) ≤ 2700000 := by exact_mod_cast h
 unfold k96
 grind
theorem q_near : -e60 ≤ zC 5400000 ∧ zC 5400000 ≤ e60 ∧ 1 - e60 ≤ zS 5400000 ∧ zS 5400000 ≤ 1 := by
 obtain ⟨h1, h2⟩ := z_near (r := 2700000) (by decide)
 have h3 := near60 (r := 2700000) (by decide)
 have h4 := (h1.trans sin_mid).trans h2.symm
 have he : eps ≤ 1 / 442721857769029238784 := by unfold eps; grind
 obtain ⟨a1, a2⟩ := z_add 2700000 2700000
 rw [show (5400000 : Int) = ((2700000 + 2700000 : Nat) : Int) from rfl, zS_nat, zC_nat, a1, a2]
 have u := z_unit 2700000
 obtain ⟨b1, b2⟩ := sq_one u
 obtain ⟨b3, b4⟩ := sq_one (x := zc 2700000) (y := zs 2700000) (by grind)
 generalize zs 2700000 = s at *
 generalize zc 2700000 = c at *
 have d : Nr s c (1 / 147573952589676412928) := h4.le (by grind)
 obtain ⟨d1, d2⟩ := d
 obtain ⟨p1, p2⟩ := rabs (m := 2) (f := 1 / 147573952589676412928) (x := c + s) (y := c - s) (by grind) (by grind) (by grind) (by grind)
 obtain ⟨q1, q2⟩ := rabs (m := 1 / 147573952589676412928) (f := 1 / 147573952589676412928) (x := c - s) (y := c - s) (by grind) (by grind) (by grind) (by grind)
 have sq0 : 0 ≤ (c - s) * (c - s) := by
  rcases (Rat.le_total : (0 : Rat) ≤ (c - s) ∨ (c - s) ≤ 0) with g | g
  ·exact rmul0 g g
  ·have := rmul0 (show 0 ≤ -(c - s) by grind) (show 0 ≤ -(c - s) by grind); grind
 unfold e60
 refine ⟨?_, ?_, ?_, ?_⟩ <;> grind
theorem q_natz : -e60 ≤ zc 5400000 ∧ zc 5400000 ≤ e60 ∧ 1 - e60 ≤ zs 5400000 ∧ zs 5400000 ≤ 1 := by
 have h := q_near
 rw [show (5400000 : Int) = ((5400000 : Nat) : Int) from rfl, zS_nat, zC_nat] at h
 exact h
structure CellE (n : Int) (t g : Rat) : Prop where
 lo : (bLo n : Rat) ≤ 1073741824 * zS n + t
 hi : 1073741824 * zS n ≤ (bHi n : Rat) + t
 up : 1073741824 * zS n + g ≤ (bLo n : Rat) + 1
 dn : (bHi n : Rat) + g ≤ 1073741824 * zS n + 1
theorem CellE.same {n m : Int} {t g d t' g' : Rat} (h : CellE n t g) (hn : Nr (zS m) (zS n) d) (h1 : bLo m = bLo n) (h2 : bHi m = bHi n) (ht : t + 1073741824 * d ≤ t') (hg : g' + 1073741824 * d ≤ g) : CellE m t' g' := by
 obtain ⟨a1, a2, a3, a4⟩ := h
 obtain ⟨n1, n2⟩ := hn
 have e1 : (bLo m : Rat) = (bLo n : Rat) := by rw [h1]
 have e2 : (bHi m : Rat) = (bHi n : Rat) := by rw [h2]
 constructor <;> simp only [e1, e2] <;> grind
theorem CellE.opp {n m : Int} {t g d t' g' : Rat} (h : CellE n t g) (hn : Nr (zS m) (-(zS n)) d) (h1 : bLo m = -(bHi n)) (h2 : bHi m = -(bLo n)) (ht : t + 1073741824 * d ≤ t') (hg : g' + 1073741824 * d ≤ g) : CellE m t' g' := by
 obtain ⟨a1, a2, a3, a4⟩ := h
 obtain ⟨n1, n2⟩ := hn
 have e1 : (bLo m : Rat) = -(bHi n : Rat) := by rw [h1]; push_cast; rfl
 have e2 : (bHi m : Rat) = -(bLo n : Rat) := by rw [h2]; push_cast; rfl
 constructor <;> simp only [e1, e2] <;> grind
theorem near_zs {r : Nat} (h : r ≤ 2700000) : Nr (zs r) (sinT r) (1 / 442721857769029238784) ∧ Nr (zc r) (cosT r) (1 / 442721857769029238784) :=
 ⟨(z_near h).1.le (near60 h), (z_near h).2.le (near60 h)⟩
theorem cell_bt {f : Nat} {v z : Rat} (hb : Bt f v) (hn : Nr z v (1 / 442721857769029238784)) : (f : Rat) + 1 / 8388608 ≤ 1073741824 * z ∧ 1073741824 * z + 1 / 8388608 ≤ (f : Rat) + 1 := by
 obtain ⟨b1, b2⟩ := hb
 obtain ⟨n1, n2⟩ := hn
 constructor <;> grind
theorem cell_q {m : Nat} (h : m ≤ 5400000) : ((sinQ m : Nat) : Rat) ≤ 1073741824 * zs m + 1 / 17179869184 ∧ 1073741824 * zs m ≤ ((hiQ m : Int) : Rat) + 1 / 17179869184 ∧ 1073741824 * zs m + 1 / 9000000 ≤ ((sinQ m : Nat) : Rat) + 1 ∧ ((hiQ m : Int) : Rat) + 1 / 9000000 ≤ 1073741824 * zs m + 1 := by
 have exact : ∀ {k : Nat}, sinQ m = k → hiQ m = (k : Int) → Nr (1073741824 * zs m) (k : Rat) (1 / 17179869184) → ((sinQ m : Nat) : Rat) ≤ 1073741824 * zs m + 1 / 17179869184 ∧ 1073741824 * zs m ≤ ((hiQ m : Int) : Rat) + 1 / 17179869184 ∧ 1073741824 * zs m + 1 / 9000000 ≤ ((sinQ m : Nat) : Rat) + 1 ∧ ((hiQ m : Int) : Rat) + 1 / 9000000 ≤ 1073741824 * zs m + 1 := fun {k} h1 h2 h3 => by
  rw [h1, h2]
  obtain ⟨n1, n2⟩ := h3
  push_cast
  refine ⟨?_, ?_, ?_, ?_⟩ <;> grind
 have inner : ∀ {f : Nat}, sinQ m = f → hiQ m = (f : Int) + 1 → (f : Rat) + 1 / 8500000 ≤ 1073741824 * zs m ∧ 1073741824 * zs m + 1 / 8500000 ≤ (f : Rat) + 1 → ((sinQ m : Nat) : Rat) ≤ 1073741824 * zs m + 1 / 17179869184 ∧ 1073741824 * zs m ≤ ((hiQ m : Int) : Rat) + 1 / 17179869184 ∧ 1073741824 * zs m + 1 / 9000000 ≤ ((sinQ m : Nat) : Rat) + 1 ∧ ((hiQ m : Int) : Rat) + 1 / 9000000 ≤ 1073741824 * zs m + 1 := fun {f} h1 h2 h3 => by
  rw [h1, h2]
  obtain ⟨n1, n2⟩ := h3
  push_cast
  refine ⟨?_, ?_, ?_, ?_⟩ <;> grind
 have hu : hiQ m = (sinQ m : Int) + oneQ m := rfl
 have ho := oneQ_at m
 by_cases c0 : m = 0
 ·subst c0
  refine exact (k := 0) sinQ_0 (by rw [hu, ho, sinQ_0]; rfl) ?_
  rw [zs_0]
  constructor <;> grind
 by_cases c1 : m = 1800000
 ·subst c1
  refine exact (k := 536870912) sinQ_h (by rw [hu, ho, sinQ_h, if_pos (.inr (.inl rfl)), Int.add_zero]) ?_
  have h1 := (near_zs (r := 1800000) (by decide)).1.trans sin_third
  have he : eps ≤ 1 / 442721857769029238784 := by unfold eps; grind
  obtain ⟨n1, n2⟩ := h1
  generalize zs 1800000 = z at *
  push_cast
  constructor <;> grind
 by_cases c2 : m = 5400000
 ·subst c2
  refine exact (k := 1073741824) sinQ_q (by rw [hu, ho, sinQ_q, if_pos (.inr (.inr rfl)), Int.add_zero]) ?_
  obtain ⟨h1, h2, h3, h4⟩ := q_natz
  unfold e60 at h3
  generalize zs 5400000 = z at *
  push_cast
  constructor <;> grind
 rw [if_neg (by omega)] at ho
 rw [ho] at hu
 by_cases c3 : m ≤ 2700000
 ·have hs := sinQ_s c0 c1 c3
  rw [hs] at hu
  have := cell_bt (octS_bt (r := m) (by omega) c3 c1) (near_zs c3).1
  exact inner hs hu (by obtain ⟨n1, n2⟩ := this; constructor <;> grind)
 ·have hs := sinQ_c (n := m) (by omega) (by omega)
  rw [hs] at hu
  obtain ⟨k, hk⟩ : ∃ k, 5400000 - m = k := ⟨_, rfl⟩
  rw [hk] at hs hu
  have hb := cell_bt (octC_bt (r := k) (by omega) (by omega)) (near_zs (r := k) (by omega)).2
  refine inner hs hu ?_
  obtain ⟨z1, -⟩ := z_sub (a := 5400000) (b := k) (by omega)
  rw [show 5400000 - k = m by omega] at z1
  obtain ⟨q1, q2, q3, q4⟩ := q_natz
  generalize zs 5400000 = zq at *
  generalize zc 5400000 = cq at *
  have u := z_unit k
  obtain ⟨b1, b2⟩ := sq_one u
  obtain ⟨b3, b4⟩ := sq_one (x := zc k) (y := zs k) (by grind)
  obtain ⟨p1, p2⟩ := rabs (x := zq - 1) (y := zc k) (m := e60) (f := 1) (by grind) (by unfold e60 at *; grind) b3 b4
  obtain ⟨p3, p4⟩ := rabs (x := cq) (y := zs k) (m := e60) (f := 1) (by grind) (by grind) b1 b2
  rw [z1]
  unfold e60 at *
  obtain ⟨n1, n2⟩ := hb
  constructor <;> grind
theorem cell_1 {n : Int} (h0 : 0 ≤ n) (h1 : n ≤ 5400000) : CellE n (1 / 17179869184) (1 / 9000000) := by
 obtain ⟨m, rfl⟩ := Int.eq_ofNat_of_zero_le h0
 obtain ⟨e1, e2⟩ := b_one h0 h1
 have h := cell_q (m := m) (by omega)
 rw [Int.toNat_natCast] at e1 e2
 obtain ⟨a1, a2, a3, a4⟩ := h
 constructor
 ·rw [e1, zS_nat]; push_cast; exact a1
 ·rw [e2, zS_nat]; exact a2
 ·rw [e1, zS_nat]; push_cast; exact a3
 ·rw [e2, zS_nat]; exact a4
theorem cell_2 {n : Int} (h0 : -5400000 ≤ n) (h1 : n ≤ 5400000) : CellE n (1 / 17179869184) (1 / 9000000) := by
 by_cases h : 0 ≤ n
 ·exact cell_1 h h1
 ·obtain ⟨b1, b2⟩ := b_odd (n := -n) (by omega) (by omega)
  rw [Int.neg_neg] at b1 b2
  refine (cell_1 (n := -n) (by omega) (by omega)).opp (d := 0) ?_ b1 b2 (by grind) (by grind)
  rw [zS_neg]
  constructor <;> grind
theorem half_near : -(2 * e60) ≤ zS 10800000 ∧ zS 10800000 ≤ 2 * e60 ∧ -1 ≤ zC 10800000 ∧ zC 10800000 ≤ -1 + 3 * e60 := by
 obtain ⟨q1, q2, q3, q4⟩ := q_near
 obtain ⟨a1, a2⟩ := Z_add 5400000 5400000
 rw [show (5400000 : Int) + 5400000 = 10800000 from rfl] at a1 a2
 have hz := (Z_in 10800000).2.1
 rw [a2] at hz
 rw [a1, a2]
 clear a1 a2
 generalize zS 5400000 = s at *
 generalize zC 5400000 = c at *
 have he : (0 : Rat) < e60 ∧ e60 ≤ 1 / 1000 := by unfold e60; constructor <;> grind
 generalize e60 = e at *
 obtain ⟨p1, p2⟩ := rabs (x := s) (y := c) (m := 1) (f := e) (by grind) q4 q1 q2
 obtain ⟨p3, p4⟩ := rabs (x := c) (y := c) (m := e) (f := e) q1 q2 q1 q2
 have p5 := rmul (a := 1 - e) (b := s) (c := 1 - e) (d := s) (by grind) q3 (by grind) q3
 have p6 := rmul (a := e) (b := 1 / 1000) (c := e) (d := e) (by grind) (by grind) (by grind) (by grind)
 refine ⟨?_, ?_, hz, ?_⟩ <;> grind
theorem turn_near : -(5 * e60) ≤ zS 21600000 ∧ zS 21600000 ≤ 5 * e60 ∧ 1 - 7 * e60 ≤ zC 21600000 ∧ zC 21600000 ≤ 1 := by
 obtain ⟨q1, q2, q3, q4⟩ := half_near
 obtain ⟨a1, a2⟩ := Z_add 10800000 10800000
 rw [show (10800000 : Int) + 10800000 = 21600000 from rfl] at a1 a2
 have hz := (Z_in 21600000).2.2
 rw [a2] at hz
 rw [a1, a2]
 clear a1 a2
 generalize zS 10800000 = s at *
 generalize zC 10800000 = c at *
 have he : (0 : Rat) < e60 ∧ e60 ≤ 1 / 1000 := by unfold e60; constructor <;> grind
 generalize e60 = e at *
 obtain ⟨p1, p2⟩ := rabs (x := c) (y := s) (m := 1) (f := 2 * e) (by grind) (by grind) q1 q2
 obtain ⟨p3, p4⟩ := rabs (x := s) (y := s) (m := 2 * e) (f := 2 * e) q1 q2 q1 q2
 have p5 := rmul (a := 1 - 3 * e) (b := -c) (c := 1 - 3 * e) (d := -c) (by grind) (by grind) (by grind) (by grind)
 have p6 := rmul (a := e) (b := 1 / 1000) (c := e) (d := e) (by grind) (by grind) (by grind) (by grind)
 refine ⟨?_, ?_, ?_, hz⟩ <;> grind
def t31 : Rat := 1 / 2147483648
def g24 : Rat := 1 / 16777216
theorem zS_refl (m : Int) : Nr (zS (10800000 - m)) (zS m) (6 * e60) := by
 obtain ⟨q1, q2, q3, q4⟩ := half_near
 obtain ⟨a1, -⟩ := Z_sub 10800000 m
 obtain ⟨⟨b1, b2⟩, b3, b4⟩ := Z_in m
 rw [a1]
 clear a1
 generalize zS 10800000 = s at *
 generalize zC 10800000 = c at *
 generalize zS m = x at *
 generalize zC m = y at *
 have he : (0 : Rat) < e60 ∧ e60 ≤ 1 / 1000 := by unfold e60; constructor <;> grind
 generalize e60 = e at *
 obtain ⟨p1, p2⟩ := rabs (x := s) (y := y) (m := 2 * e) (f := 1) q1 q2 b3 b4
 obtain ⟨p3, p4⟩ := rabs (x := c + 1) (y := x) (m := 3 * e) (f := 1) (by grind) (by grind) b1 b2
 constructor <;> grind
theorem zS_turn (m : Int) : Nr (zS (m + 21600000)) (zS m) (12 * e60) := by
 obtain ⟨q1, q2, q3, q4⟩ := turn_near
 obtain ⟨a1, -⟩ := Z_add m 21600000
 obtain ⟨⟨b1, b2⟩, b3, b4⟩ := Z_in m
 rw [a1]
 clear a1
 generalize zS 21600000 = s at *
 generalize zC 21600000 = c at *
 generalize zS m = x at *
 generalize zC m = y at *
 have he : (0 : Rat) < e60 ∧ e60 ≤ 1 / 1000 := by unfold e60; constructor <;> grind
 generalize e60 = e at *
 obtain ⟨p1, p2⟩ := rabs (x := s) (y := y) (m := 5 * e) (f := 1) q1 q2 b3 b4
 obtain ⟨p3, p4⟩ := rabs (x := c - 1) (y := x) (m := 7 * e) (f := 1) (by grind) (by grind) b1 b2
 constructor <;> grind
theorem cell_3 {n : Int} (h0 : -5400000 ≤ n) (h1 : n ≤ 16200000) : CellE n (1 / 6000000000) (1 / 10000000) := by
 have he : 1073741824 * (6 * e60) ≤ 1 / 10000000000 := by unfold e60; grind
 by_cases h : n ≤ 5400000
 ·refine (cell_2 h0 h).same (d := 0) ?_ rfl rfl (by grind) (by grind)
  constructor <;> grind
 ·have hn := zS_refl (10800000 - n)
  rw [show 10800000 - (10800000 - n) = n by omega] at hn
  refine (cell_2 (n := 10800000 - n) (by omega) (by omega)).same hn ?_ ?_ (by grind) (by grind)
  ·by_cases g : n ≤ 10800000
   ·rw [(b_two (n := n) (by omega) g).1, (b_one (n := 10800000 - n) (by omega) (by omega)).1]
   ·rw [(b_three (n := n) (by omega) h1).1, (b_four (n := 10800000 - n) (by omega) (by omega)).1, show (-(10800000 - n)) = n - 10800000 by omega]
  ·by_cases g : n ≤ 10800000
   ·rw [(b_two (n := n) (by omega) g).2, (b_one (n := 10800000 - n) (by omega) (by omega)).2]
   ·rw [(b_three (n := n) (by omega) h1).2, (b_four (n := 10800000 - n) (by omega) (by omega)).2, show (-(10800000 - n)) = n - 10800000 by omega]
theorem cell_all {n : Int} (h0 : -5400000 ≤ n) (h1 : n ≤ 27000000) : CellE n t31 g24 := by
 have he : 1073741824 * (12 * e60) ≤ 1 / 5000000000 := by unfold e60; grind
 by_cases h : n ≤ 16200000
 ·refine (cell_3 h0 h).same (d := 0) ?_ rfl rfl (by unfold t31; grind) (by unfold g24; grind)
  constructor <;> grind
 ·have hn := zS_turn (n - 21600000)
  rw [show n - 21600000 + 21600000 = n by omega] at hn
  have hb := b_shift (n - 21600000) 1
  rw [show n - 21600000 + 21600000 * 1 = n by omega] at hb
  exact (cell_3 (n := n - 21600000) (by omega) (by omega)).same hn hb.1 hb.2 (by unfold t31; grind) (by unfold g24; grind)
theorem snap_lo {n L : Int} (h0 : -5400000 ≤ n) (h1 : n ≤ 27000000) (h : (L : Rat) ≤ 1073741824 * zS n + 1 / 17000000) : L ≤ bLo n := by
 have hu := (cell_all h0 h1).up
 have : (L : Rat) < (bLo n : Rat) + 1 := by unfold g24 at hu; grind
 have h2 : L < bLo n + 1 := by exact_mod_cast this
 omega
end Go.Proofs.YtcbicpbbjbkiaaaGreatDoor
namespace Go.Proofs.YtcbicpbbjbkiaaaGreatDoor
set_option maxRecDepth 100000
open Go.RowKit

theorem tg_Below (n v : Int) (w : World) :
  Calls Tryz.prog 289 #[.int .i64 n, .int .i64 v] w fun e w' => e = .returned (.int .i64 (belI n v)) ∧ ∃ d, w' = bw w d := by
 have HB := Lib.hid (fun W => tg_bounds n W)
 have h1 := (bb_le n).1
 have h2 := bHi_one n
 unfold belI
 generalize bLo n = lo at *
 generalize bHi n = hi at *
 by_cases c1 : hi ≤ v
 ·by_cases c2 : lo < v
  ·rw [if_pos ⟨c1, c2⟩]
   have c3 : v ≥ hi := c1
   clear h1 h2
   refine lay_start ?_
   go_enter Tryz.func289, Tryz.ntmps289
   go_wp2_with (go_at_call 245; refine (HB.out _).mono ?_; rintro e w' ⟨rfl, d1, rfl⟩; rw [lay_bw])
   go_ret
   exact ⟨rfl, lay_ex _ _⟩
  ·rw [if_neg (fun h => c2 h.2), if_neg (by omega), if_pos (by omega)]
   obtain rfl : v = lo := by omega
   have c4 : ¬ v < hi := by omega
   have c5 : (v == v) = true := beq_iff_eq.2 rfl
   clear h1 h2
   refine lay_start ?_
   go_enter Tryz.func289, Tryz.ntmps289
   go_wp2_with (go_at_call 245; refine (HB.out _).mono ?_; rintro e w' ⟨rfl, d1, rfl⟩; rw [lay_bw])
   go_ret
   exact ⟨rfl, lay_ex _ _⟩
 ·by_cases c2 : v ≤ lo
  ·rw [if_neg (fun h => c1 h.1), if_pos ⟨c2, by omega⟩]
   have c3 : v < hi := by omega
   clear h1 h2
   refine lay_start ?_
   go_enter Tryz.func289, Tryz.ntmps289
   go_wp2_with (go_at_call 245; refine (HB.out _).mono ?_; rintro e w' ⟨rfl, d1, rfl⟩; rw [lay_bw])
   go_ret
   exact ⟨rfl, lay_ex _ _⟩
  ·exact False.elim (by omega)
set_option maxHeartbeats 1000000 in
theorem ar_asin (v : Int) (hv : -1073741824 ≤ v) (w : World) :
  Calls Tryz.prog 242 #[.int .i64 v] w fun e w' => e = .returned (.int .i64 (asnI v)) ∧ ∃ d, w' = bw w d := by
 have HB := Lib.hid (fun n W => tg_Below n v W)
 obtain ⟨R, hR⟩ : ∃ R, asnI v = R := ⟨_, rfl⟩
 have HR : Hid (∀ r, IsAsn v r → r = R) := Lib.hid fun r h => by rw [← hR]; exact (asnI_eq h).symm
 rw [hR]
 have HV := Lib.hid hv
 clear hR hv
 refine lay_start ?_
 go_enter Tryz.func242, Tryz.ntmps242
 go_wp2_with fail
 go_loopw [3, 4] (fun v3 v4 wr => ∃ (l h : Int) (dd : Ext), v3 = .int .i64 l ∧ v4 = .int .i64 h ∧ wr = lay w [.inr dd] ∧ -5400000 ≤ l ∧ l < h ∧ h ≤ 5400001 ∧ bHi l ≤ v ∧ (h = 5400001 ∨ v < bHi h)) (fun v3 v4 _ => (intOf v4 - intOf v3).toNat)
 case atStart => exact ⟨-5400000, 5400001, noExt _, rfl, rfl, (bw_noExt _).symm, by decide, by decide, by decide, by rw [b_bot]; exact HV.out, .inl rfl⟩
 case round =>
  obtain ⟨l, h, dd, rfl, rfl, rfl, hl, hlh, hh, hA, hB⟩ := hrel
  have HA := Lib.hid hA
  have HB2 := Lib.hid hB
  clear hA hB
  have k1 : IntKind.i64.wrap (h - l) = h - l := IntWalk.i64_in _ (by omega)
  by_cases c : 1 < h - l
  ·obtain ⟨X, hX⟩ : ∃ X, l + h = X := ⟨_, rfl⟩
   obtain ⟨m, hm⟩ : ∃ m, X / 2 = m := ⟨_, rfl⟩
   have k2 : IntKind.i64.wrap (l + h) = X := by rw [hX]; exact IntWalk.i64_in _ (by omega)
   have hml : l < m ∧ m < h := by omega
   have HLH := Lib.hid (And.intro hl (And.intro hlh (And.intro hh hml)))
   have HI := Lib.hid (belI_iff m v)
   have HBm := Lib.hid (fun W => HB.out m W)
   clear hX hl hlh hh hml
   by_cases cb : belI m v ≤ 0
   ·have HLe := Lib.hid (HI.out.1 cb)
    generalize belI m v = r at *
    go_wp2_with (go_at_call 289; refine (HBm.out _).mono ?_; rintro e w' ⟨rfl, d1, rfl⟩; rw [lay_bw])
    obtain ⟨g1, g2, g3, g4, g5⟩ := HLH.out
    obtain ⟨de, hde⟩ := lay_all w [.inr d1, .inr dd]
    exact ⟨⟨_, _, de, rfl, rfl, hde, by omega, by omega, g3, HLe.out, HB2.out⟩, by simp only [intOf]; omega⟩
   ·have HLe := Lib.hid (fun h' => cb (HI.out.2 h'))
    generalize belI m v = r at *
    go_wp2_with (go_at_call 289; refine (HBm.out _).mono ?_; rintro e w' ⟨rfl, d1, rfl⟩; rw [lay_bw])
    obtain ⟨g1, g2, g3, g4, g5⟩ := HLH.out
    obtain ⟨de, hde⟩ := lay_all w [.inr d1, .inr dd]
    have hlt : v < bHi m := Int.not_le.1 HLe.out
    exact ⟨⟨_, _, de, rfl, rfl, hde, g1, by omega, by omega, HA.out, .inr hlt⟩, by simp only [intOf]; omega⟩
  ·have hR : l = R := by
    refine HR.out l ⟨hl, by omega, HA.out, ?_⟩
    have hhl : h = l + 1 := by omega
    subst hhl
    rcases HB2.out with h1 | h1
    ·left; omega
    ·right; exact h1
   clear hl hlh hh HA HB2 HR
   subst hR
   go_wp2_with fail
   go_ret
   exact ⟨rfl, lay_ex _ _⟩
set_option maxRecDepth 100000
open Go.RowKit

theorem asE_at (lo hi : Int) : asE lo hi = if fxB lo hi = false then 1 else if mn hi 1073741824 < mx lo (-1073741824) then 2 else 0 := by unfold asE fxB; rfl
theorem ar_part (a0 a1 lo hi : Int) (w : World) :
  Calls Tryz.prog 241 #[(.agg #[.int .i64 (a0), .int .i64 (a1)]), .int .i64 lo, .int .i64 hi] w fun e w' => e = .returned (.tuple #[(.agg #[.int .i64 (mx a0 lo), .int .i64 (mn a1 hi)]), .bool (decide (mx a0 lo ≤ mn a1 hi))]) ∧ ∃ d, w' = bw w d := by
 refine lay_start ?_
 go_enter Tryz.func241, Tryz.ntmps241
 go_wp2_with fail
 go_region
 go_wp2_with fail
 exact bodyPost_ret (v := .tuple #[(.agg #[.int .i64 (mx a0 lo), .int .i64 (mn a1 hi)]), .bool (decide (mx a0 lo ≤ mn a1 hi))]) (by simp [results, Tryz.results241, go_sem]) rfl ⟨rfl, by rw [bw_drewExt, lay_bw]; exact lay_ex _ _⟩
theorem ar_Asin (lo hi : Int) (w : World) :
  Calls Tryz.prog 182 #[(.agg #[.int .i64 (lo), .int .i64 (hi)])] w fun e w' => e = .returned (.tuple #[(.agg #[.int .i64 (asL lo hi), .int .i64 (asH lo hi)]), .int .i64 (asE lo hi)]) ∧ ∃ d, w' = bw w d := by
 have HV := Lib.hid (fun W => fx_ValidG lo hi W)
 have HP := Lib.hid (fun W => ar_part lo hi (-1073741824) 1073741824 W)
 unfold asL asH
 rw [asE_at]
 cases h : fxB lo hi
 ·rw [h] at HV
  clear h HP
  rw [if_pos rfl, if_neg (show ¬ ((1 : Int) = 0) by decide), if_neg (show ¬ ((1 : Int) = 0) by decide)]
  refine lay_start ?_
  go_enter Tryz.func182, Tryz.ntmps182
  go_wp2_with (go_at_call 103; refine (HV.out _).mono ?_; rintro e w' ⟨rfl, d, rfl⟩)
  exact bodyPost_ret (v := .tuple #[(.agg #[.int .i64 (0), .int .i64 (0)]), .int .i64 1]) (by simp [results, Tryz.results182, go_sem]) rfl ⟨rfl, lay_ex _ _⟩
 ·rw [h] at HV
  have hb := fxB_iff.1 h
  have hx : -1073741824 ≤ mx lo (-1073741824) := by rw [mx_eq]; omega
  have hn : mn hi 1073741824 ≤ 1073741824 := by rw [mn_eq]; omega
  have hn2 : -2147483648 ≤ mn hi 1073741824 := by rw [mn_eq]; omega
  have hd : (mn hi 1073741824 < mx lo (-1073741824)) ∨ mx lo (-1073741824) ≤ mn hi 1073741824 := by omega
  have H1 := Lib.hid (fun W => ar_asin (mx lo (-1073741824)) hx W)
  have H2 := Lib.hid (fun W => ar_asin (-(mn hi 1073741824)) (by omega) W)
  have i1 := asnI_in (v := mx lo (-1073741824)) hx
  have i2 := asnI_in (v := -(mn hi 1073741824)) (by omega)
  clear h
  generalize mx lo (-1073741824) = x at *
  generalize mn hi 1073741824 = y at *
  generalize asnI x = u at *
  obtain ⟨y', hy'⟩ : ∃ y', -y = y' := ⟨_, rfl⟩
  have ky : IntKind.i64.wrap (-y) = y' := by rw [hy']; exact IntWalk.i64_in _ (by omega)
  rw [hy'] at H2 i2
  rw [hy']
  generalize asnI y' = v at *
  have kv : IntKind.i64.wrap (-v) = -v := IntWalk.i64_in _ (by omega)
  clear hb hx hn hn2 i1 i2 hy'
  rcases hd with hd | hd
  ·rw [show decide (x ≤ y) = false from decide_eq_false (by omega)] at HP
   rw [if_neg (show ¬ (true = false) by decide), if_pos hd, if_neg (show ¬ ((2 : Int) = 0) by decide), if_neg (show ¬ ((2 : Int) = 0) by decide)]
   refine lay_start ?_
   go_enter Tryz.func182, Tryz.ntmps182
   go_wp2_with (first | (go_at_call 103; refine (HV.out _).mono ?_; rintro e w' ⟨rfl, d, rfl⟩) | (go_at_call 241; refine (HP.out _).mono ?_; rintro e w' ⟨rfl, d2, rfl⟩))
   exact bodyPost_ret (v := .tuple #[(.agg #[.int .i64 (0), .int .i64 (0)]), .int .i64 2]) (by simp [results, Tryz.results182, go_sem]) rfl ⟨rfl, lay_ex _ _⟩
  ·rw [show decide (x ≤ y) = true from decide_eq_true (by omega)] at HP
   rw [if_neg (show ¬ (true = false) by decide), if_neg (show ¬ (y < x) by omega), if_pos rfl, if_pos rfl]
   refine lay_start ?_
   go_enter Tryz.func182, Tryz.ntmps182
   go_wp2_with (first | (go_at_call 103; refine (HV.out _).mono ?_; rintro e w' ⟨rfl, d, rfl⟩) | (go_at_call 241; refine (HP.out _).mono ?_; rintro e w' ⟨rfl, d2, rfl⟩))
   refine region_bw_tail 9 (by kernel_rfl) (by kernel_rfl) ?_
   simp only [List.take_succ_cons, List.take_zero, List.drop_succ_cons, List.drop_zero]
   repeat (go_big_quiet_step ((first | (go_at_call 242; first | (with_reducible exact bq (H1.out _) (fun d => lay_join _ _ _ d)) | (with_reducible exact bq (H1.out _) (fun d => ⟨d, rfl⟩)) | (with_reducible exact bq (H2.out _) (fun d => lay_join _ _ _ d)) | (with_reducible exact bq (H2.out _) (fun d => ⟨d, rfl⟩))))))
   refine wpQuiet_nil ?_
   rintro w' ⟨d, rfl⟩
   rw [lay_bw]
   go_wp2_with fail
   exact bodyPost_ret (v := .tuple #[(.agg #[.int .i64 (u), .int .i64 (-v)]), .int .i64 0]) (by simp [results, Tryz.results182, go_sem]) rfl ⟨rfl, lay_ex _ _⟩
end Go.Proofs.YtcbicpbbjbkiaaaGreatDoor

/- The walk of the law AlmanacStars. -/
import Derived.Test.YtlkphcjlgbimkaaGreatProg
import Derived.Test.YtlkphcjlgbimkaaGreatLay
import Derived.Test.YtlkphcjlgbimkaaGreatRegion
import Derived.Test.YtlkphcjlgbimkaaGreatMix
import Derived.WalkKit
import Derived.WalkSpells
import Derived.WalkLawsBesides
import Derived.Lib.Hide
import Derived.BigQuiet
import Derived.Test.YtlkphcjlgbimkaaGreatNw3
import Derived.Test.YtlkphcjlgbimkaaGreatStp
namespace Go.Proofs.YtlkphcjlgbimkaaGreat
open Go.RowKit Go.Shelf

def rgtB (a b c d e f g h : Int) : Prop := validB a b = true ∧ turnLo a b = a ∧ turnHi a b = b ∧ validB c d = true ∧ validB e f = true ∧ validB g h = true
set_option maxHeartbeats 1000000 in
theorem law17_right (a b c d e f g h : Int) (w : World) (hr : rgtB a b c d e f g h) :
    Calls Tryz.prog 18 #[(.agg #[.int .i64 (a), .int .i64 (b), .int .i64 (c), .int .i64 (d), .int .i64 (e), .int .i64 (f), .int .i64 (g), .int .i64 (h)])] w fun e w' => e = .returned (.bool true) ∧ ∃ d, w' = bw w d := by
  obtain ⟨r1, r2, r3, r4, r5, r6⟩ := hr
  obtain ⟨q1, q2, q3⟩ := validB_iff.1 r1
  have H1 := Lib.hid (fun W => ref05_Valid a b W)
  have H2 := Lib.hid (fun W => ref05_Valid c d W)
  have H3 := Lib.hid (fun W => ref05_Valid e f W)
  have H4 := Lib.hid (fun W => ref05_Valid g h W)
  have H5 := Lib.hid (fun W => ref05_Turn a b W (by omega) q1 (by omega))
  rw [r1] at H1; rw [r4] at H2; rw [r5] at H3; rw [r6] at H4; rw [r2, r3] at H5
  clear r1 r2 r3 r4 r5 r6 q1 q2 q3
  refine lay_start ?_
  go_enter Tryz.func18, Tryz.ntmps18
  go_wp2_with fail
  refine region_bw (by kernel_rfl) (by kernel_rfl) ?_
  repeat (go_big_quiet_step ((first | (go_at_call 71; exact bq (H5.out _) (fun d => ⟨d, rfl⟩)) | (go_at_call 71; exact bq (H5.out _) (fun d => lay_join _ _ _ d)) | ((with_reducible refine bq (H1.out _) ?_); exact (fun d => ⟨d, rfl⟩)) | ((with_reducible refine bq (H1.out _) ?_); exact (fun d => lay_join _ _ _ d)) | ((with_reducible refine bq (H2.out _) ?_); exact (fun d => ⟨d, rfl⟩)) | ((with_reducible refine bq (H2.out _) ?_); exact (fun d => lay_join _ _ _ d)) | ((with_reducible refine bq (H3.out _) ?_); exact (fun d => ⟨d, rfl⟩)) | ((with_reducible refine bq (H3.out _) ?_); exact (fun d => lay_join _ _ _ d)) | ((with_reducible refine bq (H4.out _) ?_); exact (fun d => ⟨d, rfl⟩)) | ((with_reducible refine bq (H4.out _) ?_); exact (fun d => lay_join _ _ _ d)))))
  refine wpQuiet_nil ?_
  rintro w' ⟨d, rfl⟩
  rw [lay_bw]
  go_wp2_with fail
  go_ret
  exact ⟨rfl, lay_ex _ _⟩
theorem turn_again {x y : Int} (h : x ≤ y) : turnLo (turnLo x y) (turnHi x y) = turnLo x y ∧ turnHi (turnLo x y) (turnHi x y) = turnHi x y := by
  unfold turnLo turnHi
  split
  · constructor <;> rfl
  · constructor
    · rw [if_neg (by omega)]; omega
    · rw [if_neg (by omega)]; omega
theorem dc_valid {n : Int} (h0 : -54000 ≤ n) (h1 : n ≤ 54000) : validB (dcL n) (dcH n) = true := by
  unfold dcL dcH
  rw [mx_eq, mn_eq, validB_iff]; omega
theorem star_right {a b sha dec : Int} (h : a ≤ b) (d0 : -54000 ≤ dec) (d1 : dec ≤ 54000) : rgtB (sgL a b sha) (sgH a b sha) (dcL dec) (dcH dec) 0 0 0 0 := by
  have b1 := ag_bd h
  have hx : agL a b + (100 * sha - 50) ≤ agH a b + (100 * sha + 50) := by omega
  exact ⟨turn_valid hx, (turn_again hx).1, (turn_again hx).2, dc_valid d0 d1, by decide, by decide⟩
set_option maxHeartbeats 4000000 in
set_option maxRecDepth 100000 in
theorem law17_Stars_out (v : Value) (l : List StarV) (k t : Int) (w : World) (hv : SlG stR w v l) (hne : ¬ (catB l = true ∧ l ≠ [] ∧ -70368744177664 ≤ t ∧ t ≤ 70368657777664)) :
    Calls Tryz.prog 7 #[v, .int .u8 k, .int .i64 t] w fun e w' => e = .returned (.bool true) ∧ ∃ d, w' = bw w d := by
  have HAw := Lib.hid (fun W => law17_awake W)
  have HLa := Lib.hid (fun L => law17_large_nil v l (lay w L) (hv.lay L))
  have HVa := Lib.hid (fun L => ref16_Valid v l (lay w L) (hv.lay L))
  obtain ⟨sa, sc, rfl⟩ := hv.form
  have hl : l ≠ [] ↔ 0 < l.length := List.length_pos_iff.symm
  rw [hl] at hne
  clear hv hl
  generalize catB l = c at *
  generalize l.length = m at *
  refine lay_start ?_
  go_enter Tryz.func7, Tryz.ntmps7
  go_wp2_with (first | (go_at_call 11; refine (HAw.out _).mono ?_; rintro e w' ⟨rfl, d1, rfl⟩))
  refine (HLa.out _).mono ?_
  rintro e w' ⟨r, rfl, d2, rfl⟩
  rw [lay_bw]
  cases r
  · cases c
    · clear hne
      go_wp2_with (go_at_call 28; refine (HVa.out _).mono ?_; rintro e w' ⟨rfl, d3, rfl⟩)
      go_ret
      exact ⟨rfl, lay_ex _ _⟩
    · by_cases hm : m = 0
      · subst hm
        clear hne
        go_wp2_with (go_at_call 28; refine (HVa.out _).mono ?_; rintro e w' ⟨rfl, d3, rfl⟩)
        go_ret
        exact ⟨rfl, lay_ex _ _⟩
      · have t0 : ((m : Int) == 0) = false := beq_eq_false_iff_ne.2 (by omega)
        by_cases ht : t < -70368744177664
        · clear hne
          go_wp2_with (go_at_call 28; refine (HVa.out _).mono ?_; rintro e w' ⟨rfl, d3, rfl⟩)
          go_ret
          exact ⟨rfl, lay_ex _ _⟩
        · have ht2 : 70368657777664 < t := by
            rcases Int.lt_or_le 70368657777664 t with h | h
            · exact h
            · exact absurd ⟨rfl, by omega, by omega, h⟩ hne
          clear hne
          go_wp2_with (go_at_call 28; refine (HVa.out _).mono ?_; rintro e w' ⟨rfl, d3, rfl⟩)
          go_ret
          exact ⟨rfl, lay_ex _ _⟩
  · clear hne
    go_wp2_with fail
    go_ret
    exact ⟨rfl, lay_ex _ _⟩
set_option maxHeartbeats 4000000 in
set_option maxRecDepth 100000 in
theorem law17_Stars_in (v : Value) (l : List StarV) (k t : Int) (w : World) (hv : SlG stR w v l) (hk0 : 0 ≤ k) (hk1 : k ≤ 255) (hc : catB l = true) (hne : l ≠ []) (t0 : -70368744177664 ≤ t) (t1 : t ≤ 70368657777664) :
    Calls Tryz.prog 7 #[v, .int .u8 k, .int .i64 t] w fun e w' => e = .returned (.bool true) ∧ ∃ d, w' = bw w d := by
  have HAw := Lib.hid (fun W => law17_awake W)
  have HLa := Lib.hid (fun L => law17_large_nil v l (lay w L) (hv.lay L))
  have HVa := Lib.hid (fun L => ref16_Valid v l (lay w L) (hv.lay L))
  rw [hc] at HVa
  have HMb := Lib.hid (fun L h => law17_made_bad v l (lay w L) (hv.lay L) hc h)
  have HMo := Lib.hid (fun L h => law17_made_ok v l (lay w L) (hv.lay L) hc h)
  have hlen : 0 < l.length := List.length_pos_iff.2 hne
  have hl100 := (catB_iff.1 hc).len
  have hA : l.any (fun x => isA x.s) = true ∨ l.any (fun x => isA x.s) = false := by cases l.any (fun x => isA x.s) <;> simp
  obtain ⟨b, o, c, rfl, hcc, hb, hr⟩ := hv.open hlen
  obtain ⟨i, hi⟩ : ∃ i : Nat, (i : Int) = k % (l.length : Int) := ⟨(k % (l.length : Int)).toNat, by have := Int.emod_nonneg k (show (l.length : Int) ≠ 0 by omega); omega⟩
  have hil : i < l.length := by have := Int.emod_lt_of_pos k (show (0 : Int) < (l.length : Int) by omega); omega
  obtain ⟨x, hx⟩ : ∃ x, l[i]? = some x := ⟨_, List.getElem?_eq_getElem hil⟩
  have e0 : w.cell? ⟨b, o + i * 4, none⟩ = some (.string x.s) := hr i x hx 0 _ rfl
  have e1 : w.cell? ⟨b, o + i * 4 + 1, none⟩ = some (.int .i64 x.sha) := hr i x hx 1 _ rfl
  have e2 : w.cell? ⟨b, o + i * 4 + 2, none⟩ = some (.int .i64 x.dec) := hr i x hx 2 _ rfl
  have e3 : w.cell? ⟨b, o + i * 4 + 3, none⟩ = some (.int .i64 x.mag) := hr i x hx 3 _ rfl
  obtain ⟨cn, cnum, cf⟩ := (catB_iff.1 hc).ok i x hx
  obtain ⟨⟨h0, h1⟩, ⟨y0, y1⟩, -, -⟩ : (0 ≤ x.sha ∧ x.sha ≤ 215999) ∧ (-54000 ≤ x.dec ∧ x.dec ≤ 54000) ∧ -20 ≤ x.mag ∧ x.mag ≤ 150 := by simpa [numB] using cnum
  have tm1 : timB t t = true := timB_iff.2 (by omega)
  have tm2 : timB (t + 86164090) (t + 86164091) = true := timB_iff.2 (by omega)
  have HX := Lib.hid hx
  have hmod : k.tmod (l.length : Int) = (i : Int) := by rw [hi]; exact Int.tmod_eq_emod_of_nonneg hk0
  obtain ⟨m, hm⟩ : ∃ m, l.length = m := ⟨_, rfl⟩
  have HM := Lib.hid hm
  rw [hm] at HLa HVa HMb HMo hlen hl100 hcc hil hmod ⊢
  have m0 : (m : Int) ≠ 0 := by omega
  have m1 : m ≠ 0 := by omega
  have m2 : ((m : Int) == 0) = false := beq_eq_false_iff_ne.2 (by omega)
  have m3 : (i : Int) < (m : Int) := by omega
  clear hc hr hx hi hm hne cnum hv
  refine lay_start ?_
  go_enter Tryz.func7, Tryz.ntmps7
  go_wp2_with (first | (go_at_call 11; refine (HAw.out _).mono ?_; rintro e w' ⟨rfl, d1, rfl⟩))
  refine (HLa.out _).mono ?_
  rintro e w' ⟨r, rfl, d2, rfl⟩
  rw [lay_bw]
  cases r
  · go_wp2_with (go_at_call 28; refine (HVa.out _).mono ?_; rintro e w' ⟨rfl, d3, rfl⟩)
    rcases hA with hA | hA
    · refine (HMb.out _ hA).mono ?_
      rintro e w' ⟨rfl, d4, rfl⟩
      go_wp2_with fail
      go_ret
      exact ⟨rfl, lay_ex _ _⟩
    · have hx0 : isA x.s = false := by
        have := List.any_eq_false.1 hA x (List.mem_of_getElem? HX.out)
        simpa using this
      refine (HMo.out _ hA).mono ?_
      rintro e w' ⟨bk, vs, d4, rfl, rfl, hB, hS⟩
      rw [lay_bw] at hB hS ⊢
      have HW1 := Lib.hid (fun L => alm_Where_star bk _ _ vs l i x x.s t t (lay _ L) (hB.lay L) (hS.lay L) HX.out cf hx0 tm1 (by omega) h0 h1 y0 y1)
      have HW2 := Lib.hid (fun L => alm_Where_star bk _ _ vs l i x x.s (t + 86164090) (t + 86164091) (lay _ L) (hB.lay L) (hS.lay L) HX.out cf hx0 tm2 (by omega) h0 h1 y0 y1)
      have HAr := Lib.hid (fun L => alm_Aries bk _ _ vs l t t (lay _ L) (hB.lay L) (hS.lay L) tm1 (by omega))
      simp only [← lay_appG] at HW1 HW2 HAr
      have HLe := Lib.hid (fun W => sid_Length W)
      have r1 := star_right (a := t) (b := t) (sha := x.sha) (Int.le_refl t) y0 y1
      have r2 := star_right (a := t + 86164090) (b := t + 86164091) (sha := x.sha) (by omega) y0 y1
      have va := ag_valid (a := t) (b := t) (Int.le_refl t)
      have HR1 := Lib.hid (fun W => law17_right _ _ _ _ _ _ _ _ W r1)
      have HR2 := Lib.hid (fun W => law17_right _ _ _ _ _ _ _ _ W r2)
      have HVA := Lib.hid (fun W => ref05_Valid (agL t t) (agH t t) W)
      rw [va] at HVA
      obtain ⟨g1, g2⟩ := stars_go t x.sha
      have g3 := stars_again t x.sha
      have HSb := Lib.hid (fun W => angle_Sub _ _ _ _ W r1.1 va g2)
      have HG1 := Lib.hid (fun W => angle_Agree _ _ (100 * x.sha) (100 * x.sha) W g2 (validB_iff.2 (by omega)))
      have HG2 := Lib.hid (fun W => angle_Agree _ _ _ _ W r1.1 r2.1)
      rw [g1] at HG1
      rw [g3] at HG2
      clear hB hS r1 r2 va g1 g2 g3 tm1 tm2 hA hx0 cf cn
      generalize sgL t t x.sha = p1 at *
      generalize sgH t t x.sha = q1 at *
      generalize sgL (t + 86164090) (t + 86164091) x.sha = p2 at *
      generalize sgH (t + 86164090) (t + 86164091) x.sha = q2 at *
      generalize agL t t = a1 at *
      generalize agH t t = b1 at *
      generalize dcL x.dec = u1 at *
      generalize dcH x.dec = u2 at *
      go_wp2_with fail
      refine (HW1.out [_, _]).mono ?_
      rintro e w' ⟨rfl, d5, rfl⟩
      go_wp2_with fail
      refine (HAr.out [_, _, _, _]).mono ?_
      rintro e w' ⟨rfl, d6, rfl⟩
      go_wp2_with (go_at_call 29; refine (HLe.out _).mono ?_; rintro e w' ⟨rfl, d7, rfl⟩)
      go_wp2_with (first | (go_at_call 18; (with_reducible refine (HR1.out _).mono ?_); rintro e w' ⟨rfl, d8, rfl⟩) | (go_at_call 30; (with_reducible refine (HVA.out _).mono ?_); rintro e w' ⟨rfl, d9, rfl⟩) | (go_at_call 31; (with_reducible refine (HSb.out _).mono ?_); rintro e w' ⟨rfl, dA, rfl⟩) | (go_at_call 24; (with_reducible refine (HG1.out _).mono ?_); rintro e w' ⟨rfl, dB, rfl⟩))
      refine (HW2.out [_, _, _, _, _, _, _, _, _, _, _, _, _]).mono ?_
      rintro e w' ⟨rfl, dC, rfl⟩
      go_wp2_with (first | (go_at_call 18; (with_reducible refine (HR2.out _).mono ?_); rintro e w' ⟨rfl, dD, rfl⟩) | (go_at_call 24; (with_reducible refine (HG2.out _).mono ?_); rintro e w' ⟨rfl, dE, rfl⟩))
      go_ret
      exact ⟨rfl, lay_ex _ _⟩
  · go_wp2_with fail
    go_ret
    exact ⟨rfl, lay_ex _ _⟩
theorem law17_Stars (v : Value) (l : List StarV) {w : World} (hv : SlG stR w v l) (k : Int) (wk : (Lit.int .u8 k).wf = true) (t : Int) (_ : (Lit.int .i64 t).wf = true) :
    Calls Tryz.prog 7 #[v, .int .u8 k, .int .i64 t] w fun e w' => e = .returned (.bool true) ∧ ∃ d, w' = bw w d := by
  have hk : 0 ≤ k ∧ k ≤ 255 := by simpa [Lit.wf, IntKind.min, IntKind.max, IntKind.bits, IntKind.signed] using wk
  by_cases h : catB l = true ∧ l ≠ [] ∧ -70368744177664 ≤ t ∧ t ≤ 70368657777664
  · exact law17_Stars_in v l k t w hv hk.1 hk.2 h.1 h.2.1 h.2.2.1 h.2.2.2
  · exact law17_Stars_out v l k t w hv h
end Go.Proofs.YtlkphcjlgbimkaaGreat

/- Contracts and plain laws, several texts in one: Lst; Prt -/
import Derived.Test.YtlkphcjlgbimkaaGreatProg
import Derived.WalkKit
import Derived.WalkSpells
import Derived.WalkLawsBesides
import Derived.Lib.Hide
import Derived.BigQuiet
import Derived.Test.YtlkphcjlgbimkaaGreatBAA
import Derived.Test.YtlkphcjlgbimkaaGreatBAB
import Derived.Test.YtlkphcjlgbimkaaGreatBAZ
import Derived.Test.YtlkphcjlgbimkaaGreatBBA
import Derived.Test.YtlkphcjlgbimkaaGreatBBB
/- The walk of the law AlmanacStars. -/
namespace Go.Proofs.YtlkphcjlgbimkaaGreat
open Go.RowKit Go.Shelf

def rgtB (a b c d e f g h : Int) : Prop := validB a b = true ∧ turnLo a b = a ∧ turnHi a b = b ∧ validB c d = true ∧ validB e f = true ∧ validB g h = true
set_option maxHeartbeats 1000000 in
theorem law17_right (a b c d e f g h : Int) (w : World) (hr : rgtB a b c d e f g h) :
    Calls Tryz.prog 18 #[(.agg #[.int .i64 (a), .int .i64 (b), .int .i64 (c), .int .i64 (d), .int .i64 (e), .int .i64 (f), .int .i64 (g), .int .i64 (h)])] w fun e w' => e = .returned (.bool true) ∧ ∃ d, w' = bw w d := by
  obtain ⟨r1, r2, r3, r4, r5, r6⟩ := hr
  obtain ⟨q1, q2, q3⟩ := validB_iff.1 r1
  have H1 := Lib.hid (fun W => ref05_Valid a b W)
  have H2 := Lib.hid (fun W => ref05_Valid c d W)
  have H3 := Lib.hid (fun W => ref05_Valid e f W)
  have H4 := Lib.hid (fun W => ref05_Valid g h W)
  have H5 := Lib.hid (fun W => ref05_Turn a b W (by omega) q1 (by omega))
  rw [r1] at H1; rw [r4] at H2; rw [r5] at H3; rw [r6] at H4; rw [r2, r3] at H5
  clear r1 r2 r3 r4 r5 r6 q1 q2 q3
  refine lay_start ?_
  go_enter Tryz.func18, Tryz.ntmps18
  go_wp2_with fail
  refine region_bw (by kernel_rfl) (by kernel_rfl) ?_
  repeat (go_big_quiet_step ((first | (go_at_call 71; exact bq (H5.out _) (fun d => ⟨d, rfl⟩)) | (go_at_call 71; exact bq (H5.out _) (fun d => lay_join _ _ _ d)) | ((with_reducible refine bq (H1.out _) ?_); exact (fun d => ⟨d, rfl⟩)) | ((with_reducible refine bq (H1.out _) ?_); exact (fun d => lay_join _ _ _ d)) | ((with_reducible refine bq (H2.out _) ?_); exact (fun d => ⟨d, rfl⟩)) | ((with_reducible refine bq (H2.out _) ?_); exact (fun d => lay_join _ _ _ d)) | ((with_reducible refine bq (H3.out _) ?_); exact (fun d => ⟨d, rfl⟩)) | ((with_reducible refine bq (H3.out _) ?_); exact (fun d => lay_join _ _ _ d)) | ((with_reducible refine bq (H4.out _) ?_); exact (fun d => ⟨d, rfl⟩)) | ((with_reducible refine bq (H4.out _) ?_); exact (fun d => lay_join _ _ _ d)))))
  refine wpQuiet_nil ?_
  rintro w' ⟨d, rfl⟩
  rw [lay_bw]
  go_wp2_with fail
  go_ret
  exact ⟨rfl, lay_ex _ _⟩
theorem turn_again {x y : Int} (h : x ≤ y) : turnLo (turnLo x y) (turnHi x y) = turnLo x y ∧ turnHi (turnLo x y) (turnHi x y) = turnHi x y := by
  unfold turnLo turnHi
  split
  · constructor <;> rfl
  · constructor
    · rw [if_neg (by omega)]; omega
    · rw [if_neg (by omega)]; omega
theorem dc_valid {n : Int} (h0 : -54000 ≤ n) (h1 : n ≤ 54000) : validB (dcL n) (dcH n) = true := by
  unfold dcL dcH
  rw [mx_eq, mn_eq, validB_iff]; omega
theorem star_right {a b sha dec : Int} (h : a ≤ b) (d0 : -54000 ≤ dec) (d1 : dec ≤ 54000) : rgtB (sgL a b sha) (sgH a b sha) (dcL dec) (dcH dec) 0 0 0 0 := by
  have b1 := ag_bd h
  have hx : agL a b + (100 * sha - 50) ≤ agH a b + (100 * sha + 50) := by omega
  exact ⟨turn_valid hx, (turn_again hx).1, (turn_again hx).2, dc_valid d0 d1, by decide, by decide⟩
set_option maxHeartbeats 4000000 in
set_option maxRecDepth 100000 in
theorem law17_Stars_out (v : Value) (l : List StarV) (k t : Int) (w : World) (hv : SlG stR w v l) (hne : ¬ (catB l = true ∧ l ≠ [] ∧ -70368744177664 ≤ t ∧ t ≤ 70368657777664)) :
    Calls Tryz.prog 7 #[v, .int .u8 k, .int .i64 t] w fun e w' => e = .returned (.bool true) ∧ ∃ d, w' = bw w d := by
  have HAw := Lib.hid (fun W => law17_awake W)
  have HLa := Lib.hid (fun L => law17_large_nil v l (lay w L) (hv.lay L))
  have HVa := Lib.hid (fun L => ref16_Valid v l (lay w L) (hv.lay L))
  obtain ⟨sa, sc, rfl⟩ := hv.form
  have hl : l ≠ [] ↔ 0 < l.length := List.length_pos_iff.symm
  rw [hl] at hne
  clear hv hl
  generalize catB l = c at *
  generalize l.length = m at *
  refine lay_start ?_
  go_enter Tryz.func7, Tryz.ntmps7
  go_wp2_with (first | (go_at_call 11; refine (HAw.out _).mono ?_; rintro e w' ⟨rfl, d1, rfl⟩))
  refine (HLa.out _).mono ?_
  rintro e w' ⟨r, rfl, d2, rfl⟩
  rw [lay_bw]
  cases r
  · cases c
    · clear hne
      go_wp2_with (go_at_call 28; refine (HVa.out _).mono ?_; rintro e w' ⟨rfl, d3, rfl⟩)
      go_ret
      exact ⟨rfl, lay_ex _ _⟩
    · by_cases hm : m = 0
      · subst hm
        clear hne
        go_wp2_with (go_at_call 28; refine (HVa.out _).mono ?_; rintro e w' ⟨rfl, d3, rfl⟩)
        go_ret
        exact ⟨rfl, lay_ex _ _⟩
      · have t0 : ((m : Int) == 0) = false := beq_eq_false_iff_ne.2 (by omega)
        by_cases ht : t < -70368744177664
        · clear hne
          go_wp2_with (go_at_call 28; refine (HVa.out _).mono ?_; rintro e w' ⟨rfl, d3, rfl⟩)
          go_ret
          exact ⟨rfl, lay_ex _ _⟩
        · have ht2 : 70368657777664 < t := by
            rcases Int.lt_or_le 70368657777664 t with h | h
            · exact h
            · exact absurd ⟨rfl, by omega, by omega, h⟩ hne
          clear hne
          go_wp2_with (go_at_call 28; refine (HVa.out _).mono ?_; rintro e w' ⟨rfl, d3, rfl⟩)
          go_ret
          exact ⟨rfl, lay_ex _ _⟩
  · clear hne
    go_wp2_with fail
    go_ret
    exact ⟨rfl, lay_ex _ _⟩
set_option maxHeartbeats 4000000 in
set_option maxRecDepth 100000 in
theorem law17_Stars_in (v : Value) (l : List StarV) (k t : Int) (w : World) (hv : SlG stR w v l) (hk0 : 0 ≤ k) (hk1 : k ≤ 255) (hc : catB l = true) (hne : l ≠ []) (t0 : -70368744177664 ≤ t) (t1 : t ≤ 70368657777664) :
    Calls Tryz.prog 7 #[v, .int .u8 k, .int .i64 t] w fun e w' => e = .returned (.bool true) ∧ ∃ d, w' = bw w d := by
  have HAw := Lib.hid (fun W => law17_awake W)
  have HLa := Lib.hid (fun L => law17_large_nil v l (lay w L) (hv.lay L))
  have HVa := Lib.hid (fun L => ref16_Valid v l (lay w L) (hv.lay L))
  rw [hc] at HVa
  have HMb := Lib.hid (fun L h => law17_made_bad v l (lay w L) (hv.lay L) hc h)
  have HMo := Lib.hid (fun L h => law17_made_ok v l (lay w L) (hv.lay L) hc h)
  have hlen : 0 < l.length := List.length_pos_iff.2 hne
  have hl100 := (catB_iff.1 hc).len
  have hA : l.any (fun x => isA x.s) = true ∨ l.any (fun x => isA x.s) = false := by cases l.any (fun x => isA x.s) <;> simp
  obtain ⟨b, o, c, rfl, hcc, hb, hr⟩ := hv.open hlen
  obtain ⟨i, hi⟩ : ∃ i : Nat, (i : Int) = k % (l.length : Int) := ⟨(k % (l.length : Int)).toNat, by have := Int.emod_nonneg k (show (l.length : Int) ≠ 0 by omega); omega⟩
  have hil : i < l.length := by have := Int.emod_lt_of_pos k (show (0 : Int) < (l.length : Int) by omega); omega
  obtain ⟨x, hx⟩ : ∃ x, l[i]? = some x := ⟨_, List.getElem?_eq_getElem hil⟩
  have e0 : w.cell? ⟨b, o + i * 4, none⟩ = some (.string x.s) := hr i x hx 0 _ rfl
  have e1 : w.cell? ⟨b, o + i * 4 + 1, none⟩ = some (.int .i64 x.sha) := hr i x hx 1 _ rfl
  have e2 : w.cell? ⟨b, o + i * 4 + 2, none⟩ = some (.int .i64 x.dec) := hr i x hx 2 _ rfl
  have e3 : w.cell? ⟨b, o + i * 4 + 3, none⟩ = some (.int .i64 x.mag) := hr i x hx 3 _ rfl
  obtain ⟨cn, cnum, cf⟩ := (catB_iff.1 hc).ok i x hx
  obtain ⟨⟨h0, h1⟩, ⟨y0, y1⟩, -, -⟩ : (0 ≤ x.sha ∧ x.sha ≤ 215999) ∧ (-54000 ≤ x.dec ∧ x.dec ≤ 54000) ∧ -20 ≤ x.mag ∧ x.mag ≤ 150 := by simpa [numB] using cnum
  have tm1 : timB t t = true := timB_iff.2 (by omega)
  have tm2 : timB (t + 86164090) (t + 86164091) = true := timB_iff.2 (by omega)
  have HX := Lib.hid hx
  have hmod : k.tmod (l.length : Int) = (i : Int) := by rw [hi]; exact Int.tmod_eq_emod_of_nonneg hk0
  obtain ⟨m, hm⟩ : ∃ m, l.length = m := ⟨_, rfl⟩
  have HM := Lib.hid hm
  rw [hm] at HLa HVa HMb HMo hlen hl100 hcc hil hmod ⊢
  have m0 : (m : Int) ≠ 0 := by omega
  have m1 : m ≠ 0 := by omega
  have m2 : ((m : Int) == 0) = false := beq_eq_false_iff_ne.2 (by omega)
  have m3 : (i : Int) < (m : Int) := by omega
  clear hc hr hx hi hm hne cnum hv
  refine lay_start ?_
  go_enter Tryz.func7, Tryz.ntmps7
  go_wp2_with (first | (go_at_call 11; refine (HAw.out _).mono ?_; rintro e w' ⟨rfl, d1, rfl⟩))
  refine (HLa.out _).mono ?_
  rintro e w' ⟨r, rfl, d2, rfl⟩
  rw [lay_bw]
  cases r
  · go_wp2_with (go_at_call 28; refine (HVa.out _).mono ?_; rintro e w' ⟨rfl, d3, rfl⟩)
    rcases hA with hA | hA
    · refine (HMb.out _ hA).mono ?_
      rintro e w' ⟨rfl, d4, rfl⟩
      go_wp2_with fail
      go_ret
      exact ⟨rfl, lay_ex _ _⟩
    · have hx0 : isA x.s = false := by
        have := List.any_eq_false.1 hA x (List.mem_of_getElem? HX.out)
        simpa using this
      refine (HMo.out _ hA).mono ?_
      rintro e w' ⟨bk, vs, d4, rfl, rfl, hB, hS⟩
      rw [lay_bw] at hB hS ⊢
      have HW1 := Lib.hid (fun L => alm_Where_star bk _ _ vs l i x x.s t t (lay _ L) (hB.lay L) (hS.lay L) HX.out cf hx0 tm1 (by omega) h0 h1 y0 y1)
      have HW2 := Lib.hid (fun L => alm_Where_star bk _ _ vs l i x x.s (t + 86164090) (t + 86164091) (lay _ L) (hB.lay L) (hS.lay L) HX.out cf hx0 tm2 (by omega) h0 h1 y0 y1)
      have HAr := Lib.hid (fun L => alm_Aries bk _ _ vs l t t (lay _ L) (hB.lay L) (hS.lay L) tm1 (by omega))
      simp only [← lay_appG] at HW1 HW2 HAr
      have HLe := Lib.hid (fun W => sid_Length W)
      have r1 := star_right (a := t) (b := t) (sha := x.sha) (Int.le_refl t) y0 y1
      have r2 := star_right (a := t + 86164090) (b := t + 86164091) (sha := x.sha) (by omega) y0 y1
      have va := ag_valid (a := t) (b := t) (Int.le_refl t)
      have HR1 := Lib.hid (fun W => law17_right _ _ _ _ _ _ _ _ W r1)
      have HR2 := Lib.hid (fun W => law17_right _ _ _ _ _ _ _ _ W r2)
      have HVA := Lib.hid (fun W => ref05_Valid (agL t t) (agH t t) W)
      rw [va] at HVA
      obtain ⟨g1, g2⟩ := stars_go t x.sha
      have g3 := stars_again t x.sha
      have HSb := Lib.hid (fun W => angle_Sub _ _ _ _ W r1.1 va g2)
      have HG1 := Lib.hid (fun W => angle_Agree _ _ (100 * x.sha) (100 * x.sha) W g2 (validB_iff.2 (by omega)))
      have HG2 := Lib.hid (fun W => angle_Agree _ _ _ _ W r1.1 r2.1)
      rw [g1] at HG1
      rw [g3] at HG2
      clear hB hS r1 r2 va g1 g2 g3 tm1 tm2 hA hx0 cf cn
      generalize sgL t t x.sha = p1 at *
      generalize sgH t t x.sha = q1 at *
      generalize sgL (t + 86164090) (t + 86164091) x.sha = p2 at *
      generalize sgH (t + 86164090) (t + 86164091) x.sha = q2 at *
      generalize agL t t = a1 at *
      generalize agH t t = b1 at *
      generalize dcL x.dec = u1 at *
      generalize dcH x.dec = u2 at *
      go_wp2_with fail
      refine (HW1.out [_, _]).mono ?_
      rintro e w' ⟨rfl, d5, rfl⟩
      go_wp2_with fail
      refine (HAr.out [_, _, _, _]).mono ?_
      rintro e w' ⟨rfl, d6, rfl⟩
      go_wp2_with (go_at_call 29; refine (HLe.out _).mono ?_; rintro e w' ⟨rfl, d7, rfl⟩)
      go_wp2_with (first | (go_at_call 18; (with_reducible refine (HR1.out _).mono ?_); rintro e w' ⟨rfl, d8, rfl⟩) | (go_at_call 30; (with_reducible refine (HVA.out _).mono ?_); rintro e w' ⟨rfl, d9, rfl⟩) | (go_at_call 31; (with_reducible refine (HSb.out _).mono ?_); rintro e w' ⟨rfl, dA, rfl⟩) | (go_at_call 24; (with_reducible refine (HG1.out _).mono ?_); rintro e w' ⟨rfl, dB, rfl⟩))
      refine (HW2.out [_, _, _, _, _, _, _, _, _, _, _, _, _]).mono ?_
      rintro e w' ⟨rfl, dC, rfl⟩
      go_wp2_with (first | (go_at_call 18; (with_reducible refine (HR2.out _).mono ?_); rintro e w' ⟨rfl, dD, rfl⟩) | (go_at_call 24; (with_reducible refine (HG2.out _).mono ?_); rintro e w' ⟨rfl, dE, rfl⟩))
      go_ret
      exact ⟨rfl, lay_ex _ _⟩
  · go_wp2_with fail
    go_ret
    exact ⟨rfl, lay_ex _ _⟩
theorem law17_Stars (v : Value) (l : List StarV) {w : World} (hv : SlG stR w v l) (k : Int) (wk : (Lit.int .u8 k).wf = true) (t : Int) (_ : (Lit.int .i64 t).wf = true) :
    Calls Tryz.prog 7 #[v, .int .u8 k, .int .i64 t] w fun e w' => e = .returned (.bool true) ∧ ∃ d, w' = bw w d := by
  have hk : 0 ≤ k ∧ k ≤ 255 := by simpa [Lit.wf, IntKind.min, IntKind.max, IntKind.bits, IntKind.signed] using wk
  by_cases h : catB l = true ∧ l ≠ [] ∧ -70368744177664 ≤ t ∧ t ≤ 70368657777664
  · exact law17_Stars_in v l k t w hv hk.1 hk.2 h.1 h.2.1 h.2.2.1 h.2.2.2
  · exact law17_Stars_out v l k t w hv h
end Go.Proofs.YtlkphcjlgbimkaaGreat
/- A time has the places of its instants: the plain law. -/
namespace Go.Proofs.YtlkphcjlgbimkaaGreat
open Go.RowKit Go.Shelf

/-- Each direction of the first arc is one of the second. -/
def Dia (x0 y0 x1 y1 : Int) : Prop := 21600000 ≤ y1 - x1 ∨ (y0 - x0 < 21600000 ∧ (x0 - x1) % 21600000 + (y0 - x0) ≤ y1 - x1)
theorem Dia.sub {x0 y0 x1 y1 : Int} (h1 : x1 ≤ x0) (_ : x0 ≤ y0) (h3 : y0 ≤ y1) : Dia x0 y0 x1 y1 := by unfold Dia; omega
theorem Dia.turnL {x0 y0 x1 y1 : Int} (h : Dia x0 y0 x1 y1) : Dia (turnLo x0 y0) (turnHi x0 y0) x1 y1 := by
  unfold Dia at *
  unfold turnLo turnHi
  rcases h with h | ⟨h1, h2⟩
  · exact .inl h
  · right
    rw [if_neg (by omega), if_neg (by omega)]
    omega
theorem Dia.turnR {x0 y0 x1 y1 : Int} (h : Dia x0 y0 x1 y1) : Dia x0 y0 (turnLo x1 y1) (turnHi x1 y1) := by
  unfold Dia at *
  unfold turnLo turnHi
  by_cases k : 21600000 ≤ y1 - x1
  · rw [if_pos k, if_pos k]; omega
  · rw [if_neg k, if_neg k]; omega
theorem Dia.add {x0 y0 x1 y1 c d : Int} (h : Dia x0 y0 x1 y1) (hc : c ≤ d) : Dia (x0 + c) (y0 + d) (x1 + c) (y1 + d) := by
  unfold Dia at *
  rw [show x0 + c - (x1 + c) = x0 - x1 by omega]
  omega
theorem Dia.monoR {x0 y0 x1 y1 x2 y2 : Int} (h : Dia x0 y0 x1 y1) (h1 : x2 ≤ x1) (h2 : y1 ≤ y2) : Dia x0 y0 x2 y2 := by unfold Dia at *; omega
theorem Dia.shiftR {x0 y0 x1 y1 x2 y2 : Int} (h : Dia x0 y0 x1 y1) (h1 : (x2 - x1) % 21600000 = 0) (h2 : y2 - x2 = y1 - x1) : Dia x0 y0 x2 y2 := by
  unfold Dia at *
  have : (x0 - x2) % 21600000 = (x0 - x1) % 21600000 := by omega
  rw [this]; omega
theorem sgn_mod (n : Int) : (sgnI n - n) % 21600000 = 0 := by unfold sgnI; split <;> omega
theorem Dia.joinL {x0 y0 a b c d : Int} (h : Dia x0 y0 a b) : Dia x0 y0 (turnLo (hulL a c) (hulH a b c d)) (turnHi (hulL a c) (hulH a b c d)) := by
  refine Dia.turnR (h.monoR ?_ ?_)
  · unfold hulL; rw [mn_eq]; omega
  · unfold hulH; rw [mx_eq]; omega
theorem Dia.joinR {x0 y0 a b c d : Int} (h : Dia x0 y0 c d) : Dia x0 y0 (turnLo (hulL a c) (hulH a b c d)) (turnHi (hulL a c) (hulH a b c d)) := by
  have hs := sgn_mod (c - a)
  refine Dia.turnR ((h.shiftR (x2 := a + sgnI (c - a)) (y2 := a + sgnI (c - a) + d - c) ?_ ?_).monoR ?_ ?_)
  · rw [show a + sgnI (c - a) - c = sgnI (c - a) - (c - a) by omega]; exact hs
  · omega
  · unfold hulL; rw [mn_eq]; omega
  · unfold hulH; rw [mx_eq]; omega
/-- What the law asks of a part's place and the whole's. -/
structure PartOk (x g : GeoV) : Prop where
  gha : Dia x.a x.b g.a g.b
  dec : g.c ≤ x.c ∧ x.d ≤ g.d
  semi : g.e ≤ x.e ∧ x.f ≤ g.f
  par : g.g ≤ x.g ∧ x.h ≤ g.h
theorem ariF_mono {a b : Int} (h : a ≤ b) : ariF a ≤ ariF b := by
  have h1 : ariV a ≤ ariV b := by unfold ariV; omega
  have := Int.ediv_le_ediv (c := 86400000000000) (by decide) h1
  unfold ariF; omega
theorem ceil_mono {K V W : Int} (hK : 0 < K) (h : V ≤ W) : (if 0 < V % K then V / K + 1 else V / K) ≤ (if 0 < W % K then W / K + 1 else W / K) := by
  have h1 := Int.ediv_le_ediv hK h
  have e1 := Int.emod_add_mul_ediv V K
  have e2 := Int.emod_add_mul_ediv W K
  by_cases e : V / K = W / K
  · rw [e] at e1 ⊢
    split <;> split <;> omega
  · split <;> split <;> omega
theorem ariU_mono {a b : Int} (h : a ≤ b) : ariU a ≤ ariU b := by
  have h1 : ariV a ≤ ariV b := by unfold ariV; omega
  have := ceil_mono (K := 86400000000000) (by decide) h1
  unfold ariU ariF ariR
  split at this <;> split at this <;> (rename_i p q; simp only [p, q, if_true, if_false]; omega)
theorem ag_part {a b n : Int} (h1 : a ≤ n) (h2 : n ≤ b) : Dia (agL n n) (agH n n) (agL a b) (agH a b) :=
  (Dia.sub (ariF_mono h1) (ariF_le (Int.le_refl n)) (ariU_mono h2)).turnL.turnR
theorem gha_part {t : TrkV} (ht : trkB t = true) {lo hi f u : Int} (h1 : lo ≤ f) (h2 : f ≤ u) (h3 : u ≤ hi) : PartOk (spanV t f u) (spanV t lo hi) := by
  have r0 := (gd_of ht).r0
  have g := ovr_sub (arcA (ang t.g)) (r := t.r) r0 h1 h2 h3
  have d := ovr_sub (arcA (dcl t.d)) (r := t.r) r0 h1 h2 h3
  change (ghaO t lo hi).1 ≤ (ghaO t f u).1 ∧ (ghaO t f u).2 ≤ (ghaO t lo hi).2 at g
  change (decO t lo hi).1 ≤ (decO t f u).1 ∧ (decO t f u).2 ≤ (decO t lo hi).2 at d
  refine ⟨(Dia.sub g.1 (ghaO_le ht f u) g.2).turnL.turnR, ?_, ⟨Int.le_refl _, Int.le_refl _⟩, ⟨Int.le_refl _, Int.le_refl _⟩⟩
  unfold spanV
  dsimp only
  rw [mx_eq, mx_eq, mn_eq, mn_eq]; omega
theorem PartOk.left {x g h : GeoV} (k : PartOk x g) : PartOk x (joinV g h) := by
  obtain ⟨k1, k2, k3, k4⟩ := k
  refine ⟨k1.joinL, ?_, ?_, ?_⟩ <;> (unfold joinV; dsimp only; rw [mn_eq, mx_eq]; omega)
theorem PartOk.right {x g h : GeoV} (k : PartOk x h) : PartOk x (joinV g h) := by
  obtain ⟨k1, k2, k3, k4⟩ := k
  refine ⟨k1.joinR, ?_, ?_, ?_⟩ <;> (unfold joinV; dsimp only; rw [mn_eq, mx_eq]; omega)
theorem bodyR_part {lp : List PgV} {s : ByteArray} {a b n : Int} (hok : ∀ p ∈ lp, PgOk p) (h1 : a ≤ n) (h2 : n ≤ b) (h3 : b - a < 86400000) (h : (bodyR lp s a b).2 = 0) :
    (bodyR lp s n n).2 = 0 ∧ PartOk (bodyR lp s n n).1 (bodyR lp s a b).1 := by
  cases k1 : trkAt lp s (a / 86400000) with
  | none => rw [bodyR_no k1] at h; cases h
  | some t =>
    have o1 := trkAt_ok hok k1
    by_cases e : a / 86400000 = b / 86400000
    · have en : n / 86400000 = a / 86400000 := by omega
      rw [bodyR_one k1 e, bodyR_one (a := n) (b := n) (by rw [en]; exact k1) rfl, en]
      exact ⟨rfl, gha_part o1 (by omega) (by omega) (by omega)⟩
    · cases k2 : trkAt lp s (b / 86400000) with
      | none => rw [bodyR_no2 k1 e k2] at h; cases h
      | some u =>
        have o2 := trkAt_ok hok k2
        rw [bodyR_two k1 e k2]
        by_cases en : n / 86400000 = a / 86400000
        · rw [bodyR_one (a := n) (b := n) (by rw [en]; exact k1) rfl, en]
          exact ⟨rfl, (gha_part o1 (by omega) (by omega) (by omega)).left⟩
        · have en2 : n / 86400000 = b / 86400000 := by omega
          rw [bodyR_one (a := n) (b := n) (by rw [en2]; exact k2) rfl, en2]
          exact ⟨rfl, (gha_part o2 (by omega) (by omega) (by omega)).right⟩
theorem whR_part {lp : List PgV} {ls : List StarV} {s : ByteArray} {a b n : Int} (hok : ∀ p ∈ lp, PgOk p) (h1 : a ≤ n) (h2 : n ≤ b) (h : (whR lp ls s a b).2 = 0) :
    (whR lp ls s n n).2 = 0 ∧ PartOk (whR lp ls s n n).1 (whR lp ls s a b).1 := by
  cases whW lp ls s a b with
  | bad k => rw [whR_bad k] at h; cases h
  | name t k => rw [whR_name t k] at h; cases h
  | wide t k d => rw [whR_wide t k d] at h; cases h
  | aries t d k =>
    have tn : timB n n = true := by have := timB_iff.1 t; exact timB_iff.2 (by omega)
    rw [whR_aries t d k, whR_aries tn (by omega) k]
    exact ⟨rfl, ag_part h1 h2, ⟨Int.le_refl _, Int.le_refl _⟩, ⟨Int.le_refl _, Int.le_refl _⟩, ⟨Int.le_refl _, Int.le_refl _⟩⟩
  | star i x t d k f g e =>
    have tn : timB n n = true := by have := timB_iff.1 t; exact timB_iff.2 (by omega)
    rw [whR_star t d k f e, whR_star tn (by omega) k f e]
    exact ⟨rfl, ((ag_part h1 h2).add (by omega)).turnL.turnR, ⟨Int.le_refl _, Int.le_refl _⟩, ⟨Int.le_refl _, Int.le_refl _⟩, ⟨Int.le_refl _, Int.le_refl _⟩⟩
  | body t d k f g c =>
    have tn : timB n n = true := by have := timB_iff.1 t; exact timB_iff.2 (by omega)
    rw [whR_body t d k g c] at h ⊢
    rw [whR_body tn (by omega) k g c]
    exact bodyR_part hok h1 h2 d h
theorem valid_00 : validB 0 0 = true := by decide
/-- A place is right. -/
def rgtG (g : GeoV) : Prop := rgtB g.a g.b g.c g.d g.e g.f g.g g.h
theorem sz_valid {n : Int} (h0 : 0 ≤ n) (h1 : n ≤ 1000) : validB (szL n) (szH n) = true := by
  unfold szL szH
  rw [mx_eq, mx_eq, validB_iff]; omega
theorem dcO_valid {t : TrkV} (ht : trkB t = true) (lo hi : Int) : validB (mx (decO t lo hi).1 (-5400000)) (mn (decO t lo hi).2 5400000) = true := by
  have h := validB_iff.1 (decO_valid (gd_of ht) lo hi)
  have m := dec_meet (gd_of ht) lo hi
  rw [mx_eq, mn_eq] at m ⊢
  rw [validB_iff]; omega
theorem span_right {t : TrkV} (ht : trkB t = true) (lo hi : Int) : rgtG (spanV t lo hi) := by
  obtain ⟨p0, p1, q0, q1⟩ := szOk_of ht
  have g := ghaO_le ht lo hi
  exact ⟨turn_valid g, (turn_again g).1, (turn_again g).2, dcO_valid ht lo hi, sz_valid p0 p1, sz_valid q0 q1⟩
theorem hull_valid {a b c d : Int} (h : validB a b = true) (k : validB c d = true) : validB (mn a c) (mx b d) = true := by
  rw [validB_iff] at *
  rw [mn_eq, mx_eq]; omega
theorem join_right {x y : GeoV} (h : rgtG x) (k : rgtG y) (hx : TF x.a x.b) (hy : TF y.a y.b) : rgtG (joinV x y) := by
  obtain ⟨_, _, _, h4, h5, h6⟩ := h
  obtain ⟨_, _, _, k4, k5, k6⟩ := k
  have g := (validB_iff.1 (hul_valid hx hy)).1
  exact ⟨turn_valid g, (turn_again g).1, (turn_again g).2, hull_valid h4 k4, hull_valid h5 k5, hull_valid h6 k6⟩
theorem bodyR_right {lp : List PgV} {s : ByteArray} {a b : Int} (hok : ∀ p ∈ lp, PgOk p) (h : (bodyR lp s a b).2 = 0) : rgtG (bodyR lp s a b).1 := by
  cases h1 : trkAt lp s (a / 86400000) with
  | none => rw [bodyR_no h1] at h; cases h
  | some t =>
    have o1 := trkAt_ok hok h1
    by_cases e : a / 86400000 = b / 86400000
    · rw [bodyR_one h1 e]; exact span_right o1 _ _
    · cases h2 : trkAt lp s (b / 86400000) with
      | none => rw [bodyR_no2 h1 e h2] at h; cases h
      | some u =>
        have o2 := trkAt_ok hok h2
        rw [bodyR_two h1 e h2]
        exact join_right (span_right o1 _ _) (span_right o2 _ _) (tf_turn (ghaO_le o1 _ _)) (tf_turn (ghaO_le o2 _ _))
theorem whR_right {lp : List PgV} {ls : List StarV} {s : ByteArray} {a b : Int} (hok : ∀ p ∈ lp, PgOk p) (hc : catB ls = true) (h : (whR lp ls s a b).2 = 0) : rgtG (whR lp ls s a b).1 := by
  cases whW lp ls s a b with
  | bad k => rw [whR_bad k] at h; cases h
  | name t k => rw [whR_name t k] at h; cases h
  | wide t k d => rw [whR_wide t k d] at h; cases h
  | aries t d k =>
    rw [whR_aries t d k]
    have g := ariF_le (timB_iff.1 t).1
    exact ⟨turn_valid g, (turn_again g).1, (turn_again g).2, valid_00, valid_00, valid_00⟩
  | star i x t d k f g e =>
    rw [whR_star t d k f e]
    obtain ⟨cn, cnum, cf⟩ := (catB_iff.1 hc).ok i x g
    obtain ⟨-, ⟨y0, y1⟩, -, -⟩ : (0 ≤ x.sha ∧ x.sha ≤ 215999) ∧ (-54000 ≤ x.dec ∧ x.dec ≤ 54000) ∧ -20 ≤ x.mag ∧ x.mag ≤ 150 := by simpa [numB] using cnum
    exact star_right (timB_iff.1 t).1 y0 y1
  | body t d k f g c =>
    rw [whR_body t d k g c] at h ⊢
    exact bodyR_right hok h
theorem bodyR_e {lp : List PgV} {s : ByteArray} {a b : Int} : (bodyR lp s a b).2 = 0 ∨ (bodyR lp s a b).2 = 20 := by
  unfold bodyR
  split
  · exact .inr rfl
  · split
    · exact .inl rfl
    · split
      · exact .inr rfl
      · exact .inl rfl
/-- The error numbers of a valid time. -/
theorem whR_e {lp : List PgV} {ls : List StarV} {s : ByteArray} {a b : Int} (ht : timB a b = true) : (whR lp ls s a b).2 = 0 ∨ (whR lp ls s a b).2 = 9 ∨ (whR lp ls s a b).2 = 24 ∨ (whR lp ls s a b).2 = 20 := by
  cases whW lp ls s a b with
  | bad k => rw [k] at ht; cases ht
  | name t k => rw [whR_name t k]; exact .inr (.inl rfl)
  | wide t k d => rw [whR_wide t k d]; exact .inr (.inr (.inl rfl))
  | aries t d k => rw [whR_aries t d k]; exact .inl rfl
  | star i x t d k f g e => rw [whR_star t d k f e]; exact .inl rfl
  | body t d k f g c =>
    rw [whR_body t d k g c]
    rcases bodyR_e (lp := lp) (s := s) (a := a) (b := b) with h | h
    · exact .inl h
    · exact .inr (.inr (.inr h))
/-- The law's within: some one of three moves. -/
theorem di_moves {a0 a1 b0 b1 : Int} (h0 : 0 ≤ a0) (h1 : a0 ≤ 21599999) (k0 : 0 ≤ b0) (k1 : b0 ≤ 21600000) (k2 : b1 - b0 < 21600000) (h : Dia a0 a1 b0 b1) :
    (b0 ≤ a0 ∧ a1 ≤ b1) ∨ (b0 ≤ a0 + 21600000 ∧ a1 + 21600000 ≤ b1) := by unfold Dia at h; omega
end Go.Proofs.YtlkphcjlgbimkaaGreat

/- Contracts and plain laws, several texts in one: Wh4; Alm5; Wh5; Wh6; Wh7; Mdf -/
import Derived.Test.YtnnmfdeeicpdlaaGreatProg
import Derived.WalkKit
import Derived.WalkSpells
import Derived.WalkLawsBesides
import Derived.Lib.Hide
import Derived.BigQuiet
import Derived.Test.YtnnmfdeeicpdlaaGreatSAA
import Derived.Test.YtnnmfdeeicpdlaaGreatSAD
import Derived.Test.YtnnmfdeeicpdlaaGreatSAF
import Derived.Test.YtnnmfdeeicpdlaaGreatSAN
import Derived.Test.YtnnmfdeeicpdlaaGreatSAP
import Derived.Test.YtnnmfdeeicpdlaaGreatSAR
import Derived.Test.YtnnmfdeeicpdlaaGreatSAU
/- (*almanac.Book).during where there is a track; body. -/
namespace Go.Proofs.YtnnmfdeeicpdlaaGreat
set_option maxHeartbeats 4000000
set_option maxRecDepth 100000
open Go.RowKit Go.Shelf

theorem inst_ok {t : TrkV} {ms : Int} (h : trkB t = true) (h0 : 0 ≤ ms) (h1 : ms ≤ 86400000) : instE t ms = 0 := instE_0.2 ⟨h, h0, h1⟩
theorem alm_during {P : Nat → Prop} (bk : Nat) (vd vp vs : Value) (lp : List PgV) (s : ByteArray) (n lo hi : Int) (t : TrkV) (w : World) (hB : BkL P w bk vd vp vs lp) (h : trkAt lp s n = some t) (l0 : 0 ≤ lo) (l1 : lo ≤ hi) (l2 : hi ≤ 86400000) :
    Calls Tryz.prog 191 #[.pointer (some ⟨bk, 0, none⟩), .string s, .int .i64 n, .int .i64 lo, .int .i64 hi] w fun e w' => e = .returned (.tuple #[gv (spanV t lo hi), .int .i64 0]) ∧ ∃ d, w' = bw w d := by
  have HPg := Lib.hid (fun L => alm_page bk vd vp vs lp n w (lay w L) (lay_extends w L) hB)
  obtain ⟨p, hp, h1, i, h2, h3, h4⟩ := trkAt_some h
  have htk : trkB t = true := ((hB.ok p hp).ok i t h3).1
  obtain ⟨s0, s1, s2, s3⟩ := szOk_of htk
  have HI0 := Lib.hid (inst_ok htk l0 (by omega))
  have HI1 := Lib.hid (inst_ok htk (ms := hi) (by omega) l2)
  have HA := Lib.hid (fun W => alm_around t.p W (by omega) (by omega))
  have HA2 := Lib.hid (fun W => alm_around t.q W (by omega) (by omega))
  have HX := Lib.hid (fun W => alm_positive (100 * t.p - 50) (100 * t.p + 50) W)
  have HX2 := Lib.hid (fun W => alm_positive (100 * t.q - 50) (100 * t.q + 50) W)
  rw [h1] at HPg
  unfold PgPost at HPg
  have HFn := Lib.hid h2
  have HTi := Lib.hid h3
  have HLe := Lib.hid l1
  have eI : ∀ args w, (callFunc 241 args).run Tryz.prog w = .ok (.enter 241 args) w := enters_of Tryz.func241 (by kernel_rfl) rfl
  have HE := Lib.hid eI
  have hil := (List.getElem?_eq_some_iff.1 h3).1
  obtain ⟨k, hk⟩ : ∃ k, p.ts.length = k := ⟨_, rfl⟩
  have HK := Lib.hid hk
  rw [hk] at hil
  unfold spanV gv szL szH
  dsimp only
  obtain ⟨p1, hp1⟩ : ∃ x, turnLo (ghaO t lo hi).1 (ghaO t lo hi).2 = x := ⟨_, rfl⟩
  obtain ⟨p2, hp2⟩ : ∃ x, turnHi (ghaO t lo hi).1 (ghaO t lo hi).2 = x := ⟨_, rfl⟩
  obtain ⟨p3, hp3⟩ : ∃ x, mx (decO t lo hi).1 (-5400000) = x := ⟨_, rfl⟩
  obtain ⟨p4, hp4⟩ : ∃ x, mn (decO t lo hi).2 5400000 = x := ⟨_, rfl⟩
  have HDu0 := Lib.hid (fun v W (h : Trk W v t) => inc_During_ok v t lo hi W h HI0.out HI1.out HLe.out)
  rw [hp1, hp2, hp3, hp4] at HDu0 ⊢
  clear hp1 hp2 hp3 hp4
  obtain ⟨tp, htp⟩ : ∃ tp, t.p = tp := ⟨_, rfl⟩
  obtain ⟨tq, htq⟩ : ∃ tq, t.q = tq := ⟨_, rfl⟩
  rw [htp] at HA HX ⊢
  rw [htq] at HA2 HX2 ⊢
  have HTp := Lib.hid htp
  have HTq := Lib.hid htq
  generalize mx 0 (100 * tp - 50) = u1 at *
  generalize mx 0 (100 * tp + 50) = u2 at *
  generalize mx 0 (100 * tq - 50) = u3 at *
  generalize mx 0 (100 * tq + 50) = u4 at *
  clear hB h h1 h2 h3 h4 eI hp htk hk s0 s1 s2 s3 htp htq
  refine lay_start ?_
  go_enter Tryz.func191, Tryz.ntmps191
  go_wp2_with fail
  refine (HPg.out _).mono ?_
  rintro e w' ⟨x, rfl, hD, d1, rfl⟩
  rw [lay_bw]
  obtain ⟨ls, hls, hidx⟩ := tksD_idx hD.ts s
  rw [HFn.out] at hidx
  obtain ⟨b2, o2, cap2, hxe, hcc2, hb2, -, hr2⟩ := hD.ts.open (by rw [HK.out]; omega)
  rw [HK.out] at hxe hcc2
  obtain ⟨xy, xm, xd, xa, xn, xc⟩ := x
  cases hxe
  dsimp only at hls hil hcc2
  obtain ⟨z, hzw, hzD, e0, e1, e2, e3, e4, e5⟩ := hr2 i t HTi.out
  have HDu := Lib.hid (fun L => HDu0.out _ (lay w L) ((hzD.trk hzw).lay L))
  have hzp := hzD.p
  have hzq := hzD.q
  rw [HTp.out] at hzp
  rw [HTq.out] at hzq
  have HIx := Lib.hid (fun L b' (hb : b' < (lay w L).heap.size) (hc : ∀ d, (lay w (.inr d :: L)).cell? ⟨b', 0, none⟩ = some (.string s)) => tk_IndexFunc 241 [.pointer (some ⟨b', 0, none⟩)] (fun x => nmB x.s s) _ ls (lay w L) (hls.lay L) HE.out (fun x _ d =>
    alm_during1 x s b' (lay w (.inr d :: L)) (Nat.lt_of_lt_of_le hb (bw_le _ d)) (hc d) |>.mono fun e w' ⟨h1, d2, h2⟩ => ⟨h1, _, h2.trans (bw_bw _ _ _)⟩))
  rw [hidx] at HIx
  have x0 : (0 : Int) ≤ (i : Int) := by omega
  have x1 : (i : Int) < (xn : Int) := by omega
  clear hls hidx hD hr2 hzw hzD
  obtain ⟨zs, za, zn, zc, zda, zdn, zdc, zp, zq, zr⟩ := z
  dsimp only at e0 e1 e2 e3 e4 e5 hzp hzq
  subst hzp hzq
  change Hid (∀ L, Calls Tryz.prog _ #[.agg #[.string zs, .slice za zn zc, .slice zda zdn zdc, .int .i64 zp, .int .i64 zq, .int .i64 zr], _, _] (lay w L) _) at HDu
  go_wp2_with fail
  refine (HIx.out _ _ (by simp only [lay_size, shp, posn, List.sum_cons, List.sum_nil]; omega) (fun d => by simp [go_sem])).mono ?_
  rintro e w' ⟨rfl, d2, rfl⟩
  rw [lay_bw]
  go_wp2_with (go_at_call 242; refine (HDu.out _).mono ?_; rintro e w' ⟨rfl, d3, rfl⟩)
  refine region_mixS 12 [(0, 0), (1, 0), (2, 0), (3, 0), (4, 0), (5, 0), (6, 0), (7, 0), (8, 0), (9, 0), (10, 0), (11, 2), (12, 3), (13, 2)] (by kernel_rfl) (by kernel_rfl) (by kernel_rfl) rfl ?_
  repeat (first | (refine wpMS_pure rfl (fun K hK => ?_); go_simp; refine hK _ ?_; clear hK K) | (refine wpMS_quiet rfl (fun K hK => ?_); go_simp; first | (refine hK _ ?_; clear hK K) | (apply Exists.intro; refine ⟨fun _ => ?_, hK _ ?_⟩; (first | ((with_reducible refine bq (HA.out _) ?_); exact (fun d => lay_join _ _ _ d)) | ((with_reducible refine bq (HA.out _) ?_); exact (fun d => ⟨d, rfl⟩)) | ((with_reducible refine bq (HA2.out _) ?_); exact (fun d => lay_join _ _ _ d)) | ((with_reducible refine bq (HA2.out _) ?_); exact (fun d => ⟨d, rfl⟩)) | ((with_reducible refine bq (HX.out _) ?_); exact (fun d => lay_join _ _ _ d)) | ((with_reducible refine bq (HX.out _) ?_); exact (fun d => ⟨d, rfl⟩)) | ((with_reducible refine bq (HX2.out _) ?_); exact (fun d => lay_join _ _ _ d)) | ((with_reducible refine bq (HX2.out _) ?_); exact (fun d => ⟨d, rfl⟩))); clear hK K)))
  refine wpMS_store rfl (fun K hK e1 => ?_)
  rw [lay_bw]
  go_simp
  refine hK _ _ ?_
  clear hK K
  repeat (first | (refine wpMS_pure rfl (fun K hK => ?_); go_simp; refine hK _ ?_; clear hK K) | (refine wpMS_quiet rfl (fun K hK => ?_); go_simp; first | (refine hK _ ?_; clear hK K) | (apply Exists.intro; refine ⟨fun _ => ?_, hK _ ?_⟩; (first | fail); clear hK K)))
  refine wpMS_nil ?_
  intro d9
  rw [lay_bw]
  go_wp2_with fail
  all_goals exact bodyPost_ret (v := .tuple #[(.agg #[.int .i64 (p1), .int .i64 (p2), .int .i64 (p3), .int .i64 (p4), .int .i64 (u1), .int .i64 (u2), .int .i64 (u3), .int .i64 (u4)]), .int .i64 0]) (by simp [results, Tryz.results191, go_sem]) rfl ⟨rfl, lay_ex _ _⟩
theorem gv_g0 : gv g0 = (.agg #[.int .i64 (0), .int .i64 (0), .int .i64 (0), .int .i64 (0), .int .i64 (0), .int .i64 (0), .int .i64 (0), .int .i64 (0)]) := rfl
theorem day_bd {a : Int} (h0 : -70368744177664 ≤ a) (h1 : a ≤ 70368744177664) : -1000000 ≤ a / 86400000 ∧ a / 86400000 ≤ 1000000 ∧ 0 ≤ a - a / 86400000 * 86400000 ∧ a - a / 86400000 * 86400000 ≤ 86399999 := by omega
theorem bodyR_no {lp : List PgV} {s : ByteArray} {a b : Int} (h : trkAt lp s (a / 86400000) = none) : bodyR lp s a b = (g0, 20) := by unfold bodyR; rw [h]
theorem bodyR_one {lp : List PgV} {s : ByteArray} {a b : Int} {t : TrkV} (h : trkAt lp s (a / 86400000) = some t) (e : a / 86400000 = b / 86400000) : bodyR lp s a b = (spanV t (a - a / 86400000 * 86400000) (b - a / 86400000 * 86400000), 0) := by unfold bodyR; rw [h]; exact if_pos e
theorem bodyR_no2 {lp : List PgV} {s : ByteArray} {a b : Int} {t : TrkV} (h : trkAt lp s (a / 86400000) = some t) (e : ¬ a / 86400000 = b / 86400000) (k : trkAt lp s (b / 86400000) = none) : bodyR lp s a b = (g0, 20) := by unfold bodyR; rw [h]; dsimp only; rw [if_neg e, k]
theorem bodyR_two {lp : List PgV} {s : ByteArray} {a b : Int} {t u : TrkV} (h : trkAt lp s (a / 86400000) = some t) (e : ¬ a / 86400000 = b / 86400000) (k : trkAt lp s (b / 86400000) = some u) :
    bodyR lp s a b = (joinV (spanV t (a - a / 86400000 * 86400000) 86400000) (spanV u 0 (b - b / 86400000 * 86400000)), 0) := by unfold bodyR; rw [h]; dsimp only; rw [if_neg e, k]
theorem ghaO_le {t : TrkV} (h : trkB t = true) (lo hi : Int) : (ghaO t lo hi).1 ≤ (ghaO t lo hi).2 := (validB_iff.1 (ghaO_valid (gd_of h) lo hi)).1
theorem trkAt_ok {lp : List PgV} {s : ByteArray} {n : Int} {t : TrkV} (hok : ∀ p ∈ lp, PgOk p) (h : trkAt lp s n = some t) : trkB t = true := by
  obtain ⟨p, hp, _, i, _, h3, _⟩ := trkAt_some h
  exact ((hok p hp).ok i t h3).1
theorem alm_body {P : Nat → Prop} (bk : Nat) (vd vp vs : Value) (lp : List PgV) (s : ByteArray) (a b : Int) (w : World) (hB : BkL P w bk vd vp vs lp) (ht : timB a b = true) (hw : b - a < 86400000) :
    Calls Tryz.prog 111 #[.pointer (some ⟨bk, 0, none⟩), .string s, (.agg #[.int .i64 (a), .int .i64 (b)])] w fun e w' => e = .returned (.tuple #[gv (bodyR lp s a b).1, .int .i64 (bodyR lp s a b).2]) ∧ ∃ d, w' = bw w d := by
  obtain ⟨g1, g2, g3⟩ := timB_iff.1 ht
  have HDa := Lib.hid (fun W => alm_day a W (by omega) (by omega))
  have HDb := Lib.hid (fun W => alm_day b W (by omega) (by omega))
  obtain ⟨m1, m2, m3, m4⟩ := day_bd (a := a) (by omega) (by omega)
  obtain ⟨n1, n2, n3, n4⟩ := day_bd (a := b) (by omega) (by omega)
  have HNo := Lib.hid (fun n lo hi L h => alm_during_no bk vd vp vs lp s n lo hi (lay w L) (hB.lay L) h)
  have HYes := Lib.hid (fun n lo hi t L h h0 h1 h2 => alm_during bk vd vp vs lp s n lo hi t (lay w L) (hB.lay L) h h0 h1 h2)
  have HOk := Lib.hid (fun n t h => trkAt_ok (n := n) (t := t) (s := s) hB.ok h)
  have q0 : IntKind.i64.wrap (a / 86400000 * 86400000) = a / 86400000 * 86400000 := IntWalk.i64_in _ (by omega)
  have q1 : IntKind.i64.wrap (a - a / 86400000 * 86400000) = a - a / 86400000 * 86400000 := IntWalk.i64_in _ (by omega)
  have q2 : IntKind.i64.wrap (b - a / 86400000 * 86400000) = b - a / 86400000 * 86400000 := IntWalk.i64_in _ (by omega)
  have q3 : IntKind.i64.wrap (b / 86400000 * 86400000) = b / 86400000 * 86400000 := IntWalk.i64_in _ (by omega)
  have q4 : IntKind.i64.wrap (b - b / 86400000 * 86400000) = b - b / 86400000 * 86400000 := IntWalk.i64_in _ (by omega)
  clear hB ht
  cases h1 : trkAt lp s (a / 86400000) with
  | none =>
    rw [bodyR_no h1]
    have HD1 := Lib.hid (fun lo hi L => HNo.out (a / 86400000) lo hi L h1)
    rw [gv_g0] at HD1
    clear h1 HNo HYes HOk
    generalize a / 86400000 = A at *
    generalize b / 86400000 = B at *
    by_cases e : A = B
    · subst e
      refine lay_start ?_
      go_enter Tryz.func111, Tryz.ntmps111
      go_wp2_with fail
      refine region_bw (by kernel_rfl) (by kernel_rfl) ?_
      repeat (go_big_quiet_step ((first | ((with_reducible refine bqs (HDa.out _) ?_); exact ⟨_, rfl⟩) | ((with_reducible refine bqs (HDb.out _) ?_); exact ⟨_, rfl⟩))))
      refine wpQuiet_nil ?_
      rintro w' ⟨d, rfl⟩
      rw [lay_bw]
      go_wp2_with (go_at_call 191; refine (HD1.out _ _ _).mono ?_; rintro e w' ⟨rfl, d3, rfl⟩)
      exact bodyPost_ret (v := .tuple #[(.agg #[.int .i64 (0), .int .i64 (0), .int .i64 (0), .int .i64 (0), .int .i64 (0), .int .i64 (0), .int .i64 (0), .int .i64 (0)]), .int .i64 20]) (by simp [results, Tryz.results111, go_sem]) rfl ⟨rfl, lay_ex _ _⟩
    · have t1 : (A == B) = false := beq_eq_false_iff_ne.2 e
      refine lay_start ?_
      go_enter Tryz.func111, Tryz.ntmps111
      go_wp2_with fail
      refine region_bw (by kernel_rfl) (by kernel_rfl) ?_
      repeat (go_big_quiet_step ((first | ((with_reducible refine bqs (HDa.out _) ?_); exact ⟨_, rfl⟩) | ((with_reducible refine bqs (HDb.out _) ?_); exact ⟨_, rfl⟩))))
      refine wpQuiet_nil ?_
      rintro w' ⟨d, rfl⟩
      rw [lay_bw]
      go_wp2_with (go_at_call 191; refine (HD1.out _ _ _).mono ?_; rintro e w' ⟨rfl, d3, rfl⟩)
      exact bodyPost_ret (v := .tuple #[(.agg #[.int .i64 (0), .int .i64 (0), .int .i64 (0), .int .i64 (0), .int .i64 (0), .int .i64 (0), .int .i64 (0), .int .i64 (0)]), .int .i64 20]) (by simp [results, Tryz.results111, go_sem]) rfl ⟨rfl, lay_ex _ _⟩
  | some t =>
    by_cases e : a / 86400000 = b / 86400000
    · rw [bodyR_one h1 e]
      have HD1 := Lib.hid (fun L => HYes.out (a / 86400000) (a - a / 86400000 * 86400000) (b - a / 86400000 * 86400000) t L h1 m3 (by omega) (by omega))
      generalize spanV t (a - a / 86400000 * 86400000) (b - a / 86400000 * 86400000) = X at *
      clear h1 HNo HYes HOk
      obtain ⟨x1, x2, x3, x4, x5, x6, x7, x8⟩ := X
      unfold gv at *
      dsimp only at *
      generalize a / 86400000 = A at *
      generalize b / 86400000 = B at *
      subst e
      refine lay_start ?_
      go_enter Tryz.func111, Tryz.ntmps111
      go_wp2_with fail
      refine region_bw (by kernel_rfl) (by kernel_rfl) ?_
      repeat (go_big_quiet_step ((first | ((with_reducible refine bqs (HDa.out _) ?_); exact ⟨_, rfl⟩) | ((with_reducible refine bqs (HDb.out _) ?_); exact ⟨_, rfl⟩))))
      refine wpQuiet_nil ?_
      rintro w' ⟨d, rfl⟩
      rw [lay_bw]
      go_wp2_with (go_at_call 191; refine (HD1.out _).mono ?_; rintro e w' ⟨rfl, d3, rfl⟩)
      exact bodyPost_ret (v := .tuple #[(.agg #[.int .i64 (x1), .int .i64 (x2), .int .i64 (x3), .int .i64 (x4), .int .i64 (x5), .int .i64 (x6), .int .i64 (x7), .int .i64 (x8)]), .int .i64 0]) (by simp [results, Tryz.results111, go_sem]) rfl ⟨rfl, lay_ex _ _⟩
    · have HD1 := Lib.hid (fun L => HYes.out (a / 86400000) (a - a / 86400000 * 86400000) 86400000 t L h1 m3 (by omega) (by omega))
      have t1 : (a / 86400000 == b / 86400000) = false := beq_eq_false_iff_ne.2 e
      cases h2 : trkAt lp s (b / 86400000) with
      | none =>
        rw [bodyR_no2 h1 e h2]
        have HD2 := Lib.hid (fun lo hi L => HNo.out (b / 86400000) lo hi L h2)
        rw [gv_g0] at HD2
        generalize spanV t (a - a / 86400000 * 86400000) 86400000 = X at *
        clear h1 h2 HNo HYes HOk
        obtain ⟨x1, x2, x3, x4, x5, x6, x7, x8⟩ := X
        unfold gv at *
        dsimp only at *
        generalize a / 86400000 = A at *
        generalize b / 86400000 = B at *
        refine lay_start ?_
        go_enter Tryz.func111, Tryz.ntmps111
        go_wp2_with fail
        refine region_bw (by kernel_rfl) (by kernel_rfl) ?_
        repeat (go_big_quiet_step ((first | ((with_reducible refine bqs (HDa.out _) ?_); exact ⟨_, rfl⟩) | ((with_reducible refine bqs (HDb.out _) ?_); exact ⟨_, rfl⟩))))
        refine wpQuiet_nil ?_
        rintro w' ⟨d, rfl⟩
        rw [lay_bw]
        go_wp2_with fail
        refine (HD1.out _).mono ?_
        rintro e w' ⟨rfl, d3, rfl⟩
        go_wp2_with fail
        refine (HD2.out _ _ _).mono ?_
        rintro e w' ⟨rfl, d4, rfl⟩
        go_wp2_with fail
        exact bodyPost_ret (v := .tuple #[(.agg #[.int .i64 (0), .int .i64 (0), .int .i64 (0), .int .i64 (0), .int .i64 (0), .int .i64 (0), .int .i64 (0), .int .i64 (0)]), .int .i64 20]) (by simp [results, Tryz.results111, go_sem]) rfl ⟨rfl, lay_ex _ _⟩
      | some u =>
        rw [bodyR_two h1 e h2]
        have HD2 := Lib.hid (fun L => HYes.out (b / 86400000) 0 (b - b / 86400000 * 86400000) u L h2 (by omega) (by omega) (by omega))
        have hX : TF (spanV t (a - a / 86400000 * 86400000) 86400000).a (spanV t (a - a / 86400000 * 86400000) 86400000).b := tf_turn (ghaO_le (HOk.out _ _ h1) _ _)
        have hY : TF (spanV u 0 (b - b / 86400000 * 86400000)).a (spanV u 0 (b - b / 86400000 * 86400000)).b := tf_turn (ghaO_le (HOk.out _ _ h2) _ _)
        generalize spanV t (a - a / 86400000 * 86400000) 86400000 = X at *
        generalize spanV u 0 (b - b / 86400000 * 86400000) = Y at *
        clear h1 h2 HNo HYes HOk
        obtain ⟨x1, x2, x3, x4, x5, x6, x7, x8⟩ := X
        obtain ⟨y1, y2, y3, y4, y5, y6, y7, y8⟩ := Y
        unfold joinV
        unfold gv at *
        dsimp only at *
        have HJ := Lib.hid (fun W => alm_join x1 x2 y1 y2 W hX hY)
        have HH1 := Lib.hid (fun W => alm_hull x3 x4 y3 y4 W)
        have HH2 := Lib.hid (fun W => alm_hull x5 x6 y5 y6 W)
        have HH3 := Lib.hid (fun W => alm_hull x7 x8 y7 y8 W)
        clear hX hY
        generalize turnLo (hulL x1 y1) (hulH x1 x2 y1 y2) = j1 at *
        generalize turnHi (hulL x1 y1) (hulH x1 x2 y1 y2) = j2 at *
        generalize mn x3 y3 = j3 at *
        generalize mx x4 y4 = j4 at *
        generalize mn x5 y5 = j5 at *
        generalize mx x6 y6 = j6 at *
        generalize mn x7 y7 = j7 at *
        generalize mx x8 y8 = j8 at *
        generalize a / 86400000 = A at *
        generalize b / 86400000 = B at *
        refine lay_start ?_
        go_enter Tryz.func111, Tryz.ntmps111
        go_wp2_with fail
        refine region_bw (by kernel_rfl) (by kernel_rfl) ?_
        repeat (go_big_quiet_step ((first | ((with_reducible refine bqs (HDa.out _) ?_); exact ⟨_, rfl⟩) | ((with_reducible refine bqs (HDb.out _) ?_); exact ⟨_, rfl⟩))))
        refine wpQuiet_nil ?_
        rintro w' ⟨d, rfl⟩
        rw [lay_bw]
        go_wp2_with fail
        refine (HD1.out _).mono ?_
        rintro e w' ⟨rfl, d3, rfl⟩
        go_wp2_with fail
        refine (HD2.out _).mono ?_
        rintro e w' ⟨rfl, d4, rfl⟩
        go_wp2_with fail
        refine (HJ.out _).mono ?_
        rintro e w' ⟨rfl, d5, rfl⟩
        go_wp2_with fail
        refine region_mixS 18 [(0, 0), (1, 0), (2, 0), (3, 0), (4, 0), (5, 0), (6, 0), (7, 0), (8, 0), (9, 0), (10, 0), (11, 0), (12, 0), (13, 0), (14, 0), (15, 0), (16, 0), (17, 2), (18, 3), (19, 2)] (by kernel_rfl) (by kernel_rfl) (by kernel_rfl) rfl ?_
        repeat (first | (refine wpMS_pure rfl (fun K hK => ?_); go_simp; refine hK _ ?_; clear hK K) | (refine wpMS_quiet rfl (fun K hK => ?_); go_simp; first | (refine hK _ ?_; clear hK K) | (apply Exists.intro; refine ⟨fun _ => ?_, hK _ ?_⟩; (first | ((with_reducible refine bq (HH1.out _) ?_); exact (fun d => lay_join _ _ _ d)) | ((with_reducible refine bq (HH1.out _) ?_); exact (fun d => ⟨d, rfl⟩)) | ((with_reducible refine bq (HH2.out _) ?_); exact (fun d => lay_join _ _ _ d)) | ((with_reducible refine bq (HH2.out _) ?_); exact (fun d => ⟨d, rfl⟩)) | ((with_reducible refine bq (HH3.out _) ?_); exact (fun d => lay_join _ _ _ d)) | ((with_reducible refine bq (HH3.out _) ?_); exact (fun d => ⟨d, rfl⟩))); clear hK K)))
        refine wpMS_store rfl (fun K hK e1 => ?_)
        rw [lay_bw]
        go_simp
        refine hK _ _ ?_
        clear hK K
        repeat (first | (refine wpMS_pure rfl (fun K hK => ?_); go_simp; refine hK _ ?_; clear hK K) | (refine wpMS_quiet rfl (fun K hK => ?_); go_simp; first | (refine hK _ ?_; clear hK K) | (apply Exists.intro; refine ⟨fun _ => ?_, hK _ ?_⟩; (first | fail); clear hK K)))
        refine wpMS_nil ?_
        intro d9
        rw [lay_bw]
        go_wp2_with fail
        all_goals exact bodyPost_ret (v := .tuple #[(.agg #[.int .i64 (j1), .int .i64 (j2), .int .i64 (j3), .int .i64 (j4), .int .i64 (j5), .int .i64 (j6), .int .i64 (j7), .int .i64 (j8)]), .int .i64 0]) (by simp [results, Tryz.results111, go_sem]) rfl ⟨rfl, lay_ex _ _⟩
end Go.Proofs.YtnnmfdeeicpdlaaGreat
/- (*almanac.Book).Where at Aries, and Aries. -/
namespace Go.Proofs.YtnnmfdeeicpdlaaGreat
open Go.RowKit

set_option maxHeartbeats 1000000 in
theorem alm_Where_aries (bk : Nat) (vd vp vs : Value) (l : List StarV) (s : ByteArray) (a b : Int) (w : World) (hB : Bk w bk vd vp vs) (hv : SlG stR w vs l)
    (hne : (s.toList == [65, 114, 105, 101, 115]) = true) (ht : timB a b = true) (hw : b - a < 86400000) :
    Calls Tryz.prog 30 #[.pointer (some ⟨bk, 0, none⟩), .string s, (.agg #[.int .i64 (a), .int .i64 (b)])] w fun e w' =>
      e = .returned (.tuple #[(.agg #[.int .i64 (agL a b), .int .i64 (agH a b), .int .i64 (0), .int .i64 (0), .int .i64 (0), .int .i64 (0), .int .i64 (0), .int .i64 (0)]), .int .i64 0]) ∧ ∃ d, w' = bw w d := by
  obtain ⟨g1, g2, g3⟩ := timB_iff.1 ht
  have HV := Lib.hid (fun W => clock_Valid a b W)
  rw [ht] at HV
  have HS := Lib.hid (fun W => sid_Interval a b W ht)
  change Hid (∀ w, Calls Tryz.prog _ _ w fun e w' => e = .returned (.tuple #[(.agg #[.int .i64 (agL a b), .int .i64 (agH a b)]), .int .i64 0]) ∧ ∃ d, w' = bw w d) at HS
  have eI : ∀ args w, (callFunc 108 args).run Tryz.prog w = .ok (.enter 108 args) w := enters_of Tryz.func108 (by kernel_rfl) rfl
  have HI := Lib.hid (fun L b' (hb : b' < (lay w L).heap.size) (hc : ∀ d, (lay w (.inr d :: L)).cell? ⟨b', 0, none⟩ = some (.string s)) => st_IndexFunc 108 [.pointer (some ⟨b', 0, none⟩)] (fun x => nmB x.s s) vs l (lay w L) (hv.lay L) eI (fun x _ d =>
    alm_Where1 x s b' (lay w (.inr d :: L)) (Nat.lt_of_lt_of_le hb (bw_le _ d)) (hc d) |>.mono fun e w' ⟨h1, d2, h2⟩ => ⟨h1, _, h2.trans (bw_bw _ _ _)⟩))
  change Hid (∀ L b' hb hc, Calls Tryz.prog _ _ _ (IdxPost (lay w L) (fndS l s))) at HI
  obtain ⟨sa, sc, rfl⟩ := hv.form
  obtain ⟨k0, k1, k2, k3⟩ := hB
  have z3 : decide ((86400000 : Int) ≤ wrap64 (b - a)) = false := decide_eq_false (by unfold wrap64; omega)
  generalize l.length = m at *
  generalize fndS l s = i at *
  generalize agL a b = p at *
  generalize agH a b = q at *
  clear hv ht g1 g2 g3 eI
  refine lay_start ?_
  go_enter Tryz.func30, Tryz.ntmps30
  go_wp2_with (first | (go_at_call 106; refine (HV.out _).mono ?_; rintro e w' ⟨rfl, dV, rfl⟩))
  refine (HI.out _ _ (by simp only [lay_size, shp, posn, List.sum_cons, List.sum_nil]; omega) (fun d => by simp [go_sem])).mono ?_
  rintro e w' ⟨rfl, dJ, rfl⟩
  rw [lay_bw]
  go_wp2_with fail
  refine region_bw (by kernel_rfl) (by kernel_rfl) ?_
  repeat (go_big_quiet_step ((first | fail)))
  refine wpQuiet_nil ?_
  rintro w' ⟨dK, rfl⟩
  rw [lay_bw]
  go_wp2_with (first | (go_at_call 109; refine (HS.out _).mono ?_; rintro e w' ⟨rfl, dV, rfl⟩))
  all_goals exact bodyPost_ret (v := .tuple #[(.agg #[.int .i64 (p), .int .i64 (q), .int .i64 (0), .int .i64 (0), .int .i64 (0), .int .i64 (0), .int .i64 (0), .int .i64 (0)]), .int .i64 0]) (by simp [results, Tryz.results30, go_sem]) rfl ⟨rfl, lay_ex _ _⟩
end Go.Proofs.YtnnmfdeeicpdlaaGreat
/- (*almanac.Book).Where in full. -/
namespace Go.Proofs.YtnnmfdeeicpdlaaGreat
set_option maxHeartbeats 4000000
open Go.RowKit Go.Shelf

theorem isA_list {s : ByteArray} {r : Bool} (h : isA s = r) : (s.toList == [65, 114, 105, 101, 115]) = r := h
theorem idx_where (vs : Value) (ls : List StarV) (s : ByteArray) (w : World) (hv : SlG stR w vs ls) :
    Hid (∀ L b' (_ : b' < (lay w L).heap.size) (_ : ∀ d, (lay w (.inr d :: L)).cell? ⟨b', 0, none⟩ = some (.string s)), Calls Tryz.prog 107 #[vs, .func (.func 108) #[] #[.pointer (some ⟨b', 0, none⟩)]] (lay w L) (IdxPost (lay w L) (fndS ls s))) := by
  have eI : ∀ args w, (callFunc 108 args).run Tryz.prog w = .ok (.enter 108 args) w := enters_of Tryz.func108 (by kernel_rfl) rfl
  exact Lib.hid (fun L b' hb hc => st_IndexFunc 108 [.pointer (some ⟨b', 0, none⟩)] (fun x => nmB x.s s) vs ls (lay w L) (hv.lay L) eI (fun x _ d =>
    alm_Where1 x s b' (lay w (.inr d :: L)) (Nat.lt_of_lt_of_le hb (bw_le _ d)) (hc d) |>.mono fun e w' ⟨h1, d2, h2⟩ => ⟨h1, _, h2.trans (bw_bw _ _ _)⟩))
theorem alm_Where_bad (bk : Nat) (s : ByteArray) (a b : Int) (w : World) (ht : timB a b = false) :
    Calls Tryz.prog 30 #[.pointer (some ⟨bk, 0, none⟩), .string s, (.agg #[.int .i64 (a), .int .i64 (b)])] w fun e w' => e = .returned (.tuple #[gv g0, .int .i64 1]) ∧ ∃ d, w' = bw w d := by
  have HV := Lib.hid (fun W => clock_Valid a b W)
  rw [ht] at HV
  clear ht
  refine lay_start ?_
  go_enter Tryz.func30, Tryz.ntmps30
  go_wp2_with (first | (go_at_call 106; refine (HV.out _).mono ?_; rintro e w' ⟨rfl, dV, rfl⟩))
  all_goals exact bodyPost_ret (v := .tuple #[(.agg #[.int .i64 (0), .int .i64 (0), .int .i64 (0), .int .i64 (0), .int .i64 (0), .int .i64 (0), .int .i64 (0), .int .i64 (0)]), .int .i64 1]) (by simp [results, Tryz.results30, go_sem]) rfl ⟨rfl, lay_ex _ _⟩
theorem alm_Where_wide1 (bk : Nat) (vd vp vs : Value) (ls : List StarV) (s : ByteArray) (a b : Int) (w : World) (hB : Bk w bk vd vp vs) (hv : SlG stR w vs ls) (ht : timB a b = true) (hw : 86400000 ≤ b - a) (hne : isA s = true) :
    Calls Tryz.prog 30 #[.pointer (some ⟨bk, 0, none⟩), .string s, (.agg #[.int .i64 (a), .int .i64 (b)])] w fun e w' => e = .returned (.tuple #[gv g0, .int .i64 24]) ∧ ∃ d, w' = bw w d := by
  obtain ⟨g1, g2, g3⟩ := timB_iff.1 ht
  have HV := Lib.hid (fun W => clock_Valid a b W)
  rw [ht] at HV
  have HI := idx_where vs ls s w hv
  have hne2 := isA_list hne
  obtain ⟨sa, sc, rfl⟩ := hv.form
  obtain ⟨k0, k1, k2, k3⟩ := hB
  have z3 : decide ((86400000 : Int) ≤ wrap64 (b - a)) = true := decide_eq_true (by unfold wrap64; omega)
  generalize ls.length = m at *
  generalize fndS ls s = i at *
  clear hv ht g1 g2 g3 hne
  refine lay_start ?_
  go_enter Tryz.func30, Tryz.ntmps30
  go_wp2_with (first | (go_at_call 106; refine (HV.out _).mono ?_; rintro e w' ⟨rfl, dV, rfl⟩))
  refine (HI.out _ _ (by simp only [lay_size, shp, posn, List.sum_cons, List.sum_nil]; omega) (fun d => by simp [go_sem])).mono ?_
  rintro e w' ⟨rfl, dJ, rfl⟩
  rw [lay_bw]
  go_wp2_with fail
  refine region_bw (by kernel_rfl) (by kernel_rfl) ?_
  repeat (go_big_quiet_step ((first | fail)))
  refine wpQuiet_nil ?_
  rintro w' ⟨dK, rfl⟩
  rw [lay_bw]
  go_wp2_with fail
  all_goals exact bodyPost_ret (v := .tuple #[(.agg #[.int .i64 (0), .int .i64 (0), .int .i64 (0), .int .i64 (0), .int .i64 (0), .int .i64 (0), .int .i64 (0), .int .i64 (0)]), .int .i64 24]) (by simp [results, Tryz.results30, go_sem]) rfl ⟨rfl, lay_ex _ _⟩
theorem alm_Where_wide2 (bk : Nat) (vd vp vs : Value) (ls : List StarV) (i : Nat) (s : ByteArray) (a b : Int) (w : World) (hB : Bk w bk vd vp vs) (hv : SlG stR w vs ls) (ht : timB a b = true) (hw : 86400000 ≤ b - a) (hne : isA s = false) (hi : fndS ls s = (i : Int)) :
    Calls Tryz.prog 30 #[.pointer (some ⟨bk, 0, none⟩), .string s, (.agg #[.int .i64 (a), .int .i64 (b)])] w fun e w' => e = .returned (.tuple #[gv g0, .int .i64 24]) ∧ ∃ d, w' = bw w d := by
  obtain ⟨g1, g2, g3⟩ := timB_iff.1 ht
  have HV := Lib.hid (fun W => clock_Valid a b W)
  rw [ht] at HV
  have HI := idx_where vs ls s w hv
  rw [hi] at HI
  have hne2 := isA_list hne
  obtain ⟨sa, sc, rfl⟩ := hv.form
  obtain ⟨k0, k1, k2, k3⟩ := hB
  have z3 : decide ((86400000 : Int) ≤ wrap64 (b - a)) = true := decide_eq_true (by unfold wrap64; omega)
  have z1 : decide ((i : Int) < 0) = false := decide_eq_false (by omega)
  generalize ls.length = m at *
  clear hv ht g1 g2 g3 hne hi
  refine lay_start ?_
  go_enter Tryz.func30, Tryz.ntmps30
  go_wp2_with (first | (go_at_call 106; refine (HV.out _).mono ?_; rintro e w' ⟨rfl, dV, rfl⟩))
  refine (HI.out _ _ (by simp only [lay_size, shp, posn, List.sum_cons, List.sum_nil]; omega) (fun d => by simp [go_sem])).mono ?_
  rintro e w' ⟨rfl, dJ, rfl⟩
  rw [lay_bw]
  go_wp2_with fail
  refine region_bw (by kernel_rfl) (by kernel_rfl) ?_
  repeat (go_big_quiet_step ((first | fail)))
  refine wpQuiet_nil ?_
  rintro w' ⟨dK, rfl⟩
  rw [lay_bw]
  go_wp2_with fail
  all_goals exact bodyPost_ret (v := .tuple #[(.agg #[.int .i64 (0), .int .i64 (0), .int .i64 (0), .int .i64 (0), .int .i64 (0), .int .i64 (0), .int .i64 (0), .int .i64 (0)]), .int .i64 24]) (by simp [results, Tryz.results30, go_sem]) rfl ⟨rfl, lay_ex _ _⟩
set_option maxRecDepth 100000 in
theorem alm_Where_three {P : Nat → Prop} (bk : Nat) (vd vp vs : Value) (lp : List PgV) (ls : List StarV) (s : ByteArray) (a b : Int) (w : World) (hB : BkL P w bk vd vp vs lp) (hv : SlG stR w vs ls) (ht : timB a b = true) (hne : isA s = false) (hi : fndS ls s = -1) :
    Calls Tryz.prog 30 #[.pointer (some ⟨bk, 0, none⟩), .string s, (.agg #[.int .i64 (a), .int .i64 (b)])] w fun e w' =>
      e = .returned (if Lib.containsS (tkL lp) s = false then .tuple #[gv g0, .int .i64 9] else if 86400000 ≤ b - a then .tuple #[gv g0, .int .i64 24] else .tuple #[gv (bodyR lp s a b).1, .int .i64 (bodyR lp s a b).2]) ∧ ∃ d, w' = bw w d := by
  obtain ⟨g1, g2, g3⟩ := timB_iff.1 ht
  have HV := Lib.hid (fun W => clock_Valid a b W)
  rw [ht] at HV
  have HI := idx_where vs ls s w hv
  rw [hi] at HI
  have HF : Few lp := ⟨by have := hB.few; omega, fun p hp => by have := (hB.ok p hp).len; omega⟩
  have HT := Lib.hid (fun L => alm_tracked bk vd vp vs lp (lay w L) (hB.bk.lay L) (hB.pgs.lay L) HF)
  have HBo := Lib.hid (fun L h => alm_body bk vd vp vs lp s a b (lay w L) (hB.lay L) ht h)
  have hne2 := isA_list hne
  have hbk := hB.bk
  obtain ⟨sa, sc, rfl⟩ := hv.form
  obtain ⟨k0, k1, k2, k3⟩ := hbk
  obtain ⟨T, hT⟩ : ∃ T, tkL lp = T := ⟨_, rfl⟩
  rw [hT] at HT ⊢
  have y1 : decide ((-1 : Int) < 0) = true := by decide
  generalize ls.length = m at *
  obtain ⟨R1, hR1⟩ : ∃ R, (bodyR lp s a b).1 = R := ⟨_, rfl⟩
  obtain ⟨R2, hR2⟩ : ∃ R, (bodyR lp s a b).2 = R := ⟨_, rfl⟩
  rw [hR1, hR2] at HBo ⊢
  obtain ⟨r1, r2, r3, r4, r5, r6, r7, r8⟩ := R1
  have h0e : R2 = 0 ∨ R2 = 20 := by
    rw [← hR2]
    unfold bodyR
    split
    · exact .inr rfl
    · split
      · exact .inl rfl
      · split
        · exact .inr rfl
        · exact .inl rfl
  have hR0 : R2 = 20 → (⟨r1, r2, r3, r4, r5, r6, r7, r8⟩ : GeoV) = g0 := fun h => by
    rw [← hR1]
    rw [← hR2] at h
    unfold bodyR at h ⊢
    revert h
    split
    · intro _; rfl
    · split
      · intro h; cases h
      · split
        · intro _; rfl
        · intro h; cases h
  have HR0 := Lib.hid hR0
  have HCn := Lib.hid (fun W v (h : SlG strR W v T) => str_Contains v T s W h)
  generalize Lib.containsS T s = r at *
  clear hv hB HF hT hi hR1 hR2 hR0 hne ht
  unfold gv
  dsimp only
  unfold gv at HBo
  dsimp only at HBo
  cases r
  · rw [if_pos rfl]
    refine lay_start ?_
    go_enter Tryz.func30, Tryz.ntmps30
    go_wp2_with (first | (go_at_call 106; refine (HV.out _).mono ?_; rintro e w' ⟨rfl, dV, rfl⟩))
    refine (HI.out _ _ (by simp only [lay_size, shp, posn, List.sum_cons, List.sum_nil]; omega) (fun d => by simp [go_sem])).mono ?_
    rintro e w' ⟨rfl, dJ, rfl⟩
    rw [lay_bw]
    go_wp2_with fail
    refine region_mixP [(0, 0), (1, 0), (2, 0), (3, 0), (4, 0), (5, 0), (6, 0), (7, 0), (9, 0), (8, 1), (10, 1), (11, 0)] (by kernel_rfl) (by kernel_rfl) (by kernel_rfl) (by kernel_rfl) (by decide) (by kernel_rfl) ?_
    simp only [List.drop_succ_cons, List.drop_zero, List.length_cons, List.length_nil, Nat.reduceAdd]
    iterate 9 (refine wpMP_quiet rfl (fun K hK => ?_); go_simp; refine hK _ ?_; clear hK K)
    refine wpMP_special rfl (fun K hK d0 => ?_)
    go_simp
    refine (HT.out _).mono ?_
    rintro e w' ⟨tA, tc, dT, rfl, rfl, -, hS⟩
    rw [lay_bw] at hS
    have HS := Lib.hid hS
    clear hS
    refine ⟨_, rfl, ?_⟩
    go_simp
    refine hK _ _ (lay_in w [_, _] _) ?_
    clear hK K
    refine wpMP_special rfl (fun K hK d2 => ?_)
    go_simp
    have h10 := HCn.out _ _ (slG_on (A := [.inr d2]) HS.out)
    simp only [List.cons_append, List.nil_append] at h10
    refine h10.mono ?_
    rintro e w' ⟨rfl, hw2⟩
    clear h10
    subst hw2
    refine ⟨_, rfl, ?_⟩
    go_simp
    refine hK _ _ (lay_in w [_, _, _] _) ?_
    clear hK K
    refine wpMP_quiet rfl (fun K hK => ?_); go_simp; refine hK _ ?_; clear hK K
    refine wpMP_nil ?_
    intro d1
    rw [lay_bw]
    go_wp2_with fail
    all_goals exact bodyPost_ret (v := .tuple #[(.agg #[.int .i64 (0), .int .i64 (0), .int .i64 (0), .int .i64 (0), .int .i64 (0), .int .i64 (0), .int .i64 (0), .int .i64 (0)]), .int .i64 9]) (by simp [results, Tryz.results30, go_sem]) rfl ⟨rfl, lay_ex _ _⟩
  · rw [if_neg (by decide)]
    by_cases hw : 86400000 ≤ b - a
    · rw [if_pos hw]
      have z3 : decide ((86400000 : Int) ≤ wrap64 (b - a)) = true := decide_eq_true (by unfold wrap64; omega)
      clear g1 g2 g3
      refine lay_start ?_
      go_enter Tryz.func30, Tryz.ntmps30
      go_wp2_with (first | (go_at_call 106; refine (HV.out _).mono ?_; rintro e w' ⟨rfl, dV, rfl⟩))
      refine (HI.out _ _ (by simp only [lay_size, shp, posn, List.sum_cons, List.sum_nil]; omega) (fun d => by simp [go_sem])).mono ?_
      rintro e w' ⟨rfl, dJ, rfl⟩
      rw [lay_bw]
      go_wp2_with fail
      refine region_mixP [(0, 0), (1, 0), (2, 0), (3, 0), (4, 0), (5, 0), (6, 0), (7, 0), (9, 0), (8, 1), (10, 1), (11, 0)] (by kernel_rfl) (by kernel_rfl) (by kernel_rfl) (by kernel_rfl) (by decide) (by kernel_rfl) ?_
      simp only [List.drop_succ_cons, List.drop_zero, List.length_cons, List.length_nil, Nat.reduceAdd]
      iterate 9 (refine wpMP_quiet rfl (fun K hK => ?_); go_simp; refine hK _ ?_; clear hK K)
      refine wpMP_special rfl (fun K hK d0 => ?_)
      go_simp
      refine (HT.out _).mono ?_
      rintro e w' ⟨tA, tc, dT, rfl, rfl, -, hS⟩
      rw [lay_bw] at hS
      have HS := Lib.hid hS
      clear hS
      refine ⟨_, rfl, ?_⟩
      go_simp
      refine hK _ _ (lay_in w [_, _] _) ?_
      clear hK K
      refine wpMP_special rfl (fun K hK d2 => ?_)
      go_simp
      have h10 := HCn.out _ _ (slG_on (A := [.inr d2]) HS.out)
      simp only [List.cons_append, List.nil_append] at h10
      refine h10.mono ?_
      rintro e w' ⟨rfl, hw2⟩
      clear h10
      subst hw2
      refine ⟨_, rfl, ?_⟩
      go_simp
      refine hK _ _ (lay_in w [_, _, _] _) ?_
      clear hK K
      refine wpMP_quiet rfl (fun K hK => ?_); go_simp; refine hK _ ?_; clear hK K
      refine wpMP_nil ?_
      intro d1
      rw [lay_bw]
      go_wp2_with fail
      all_goals exact bodyPost_ret (v := .tuple #[(.agg #[.int .i64 (0), .int .i64 (0), .int .i64 (0), .int .i64 (0), .int .i64 (0), .int .i64 (0), .int .i64 (0), .int .i64 (0)]), .int .i64 24]) (by simp [results, Tryz.results30, go_sem]) rfl ⟨rfl, lay_ex _ _⟩
    · rw [if_neg hw]
      have HBo2 := Lib.hid (fun L => HBo.out L (by omega))
      have z3 : decide ((86400000 : Int) ≤ wrap64 (b - a)) = false := decide_eq_false (by unfold wrap64; omega)
      have z4 : ¬ (0 : Int) ≤ -1 := by decide
      clear g1 g2 g3 HBo
      rcases h0e with e | e
      · subst e
        refine lay_start ?_
        go_enter Tryz.func30, Tryz.ntmps30
        go_wp2_with (first | (go_at_call 106; refine (HV.out _).mono ?_; rintro e w' ⟨rfl, dV, rfl⟩))
        refine (HI.out _ _ (by simp only [lay_size, shp, posn, List.sum_cons, List.sum_nil]; omega) (fun d => by simp [go_sem])).mono ?_
        rintro e w' ⟨rfl, dJ, rfl⟩
        rw [lay_bw]
        go_wp2_with fail
        refine region_mixP [(0, 0), (1, 0), (2, 0), (3, 0), (4, 0), (5, 0), (6, 0), (7, 0), (9, 0), (8, 1), (10, 1), (11, 0)] (by kernel_rfl) (by kernel_rfl) (by kernel_rfl) (by kernel_rfl) (by decide) (by kernel_rfl) ?_
        simp only [List.drop_succ_cons, List.drop_zero, List.length_cons, List.length_nil, Nat.reduceAdd]
        iterate 9 (refine wpMP_quiet rfl (fun K hK => ?_); go_simp; refine hK _ ?_; clear hK K)
        refine wpMP_special rfl (fun K hK d0 => ?_)
        go_simp
        refine (HT.out _).mono ?_
        rintro e w' ⟨tA, tc, dT, rfl, rfl, -, hS⟩
        rw [lay_bw] at hS
        have HS := Lib.hid hS
        clear hS
        refine ⟨_, rfl, ?_⟩
        go_simp
        refine hK _ _ (lay_in w [_, _] _) ?_
        clear hK K
        refine wpMP_special rfl (fun K hK d2 => ?_)
        go_simp
        have h10 := HCn.out _ _ (slG_on (A := [.inr d2]) HS.out)
        simp only [List.cons_append, List.nil_append] at h10
        refine h10.mono ?_
        rintro e w' ⟨rfl, hw2⟩
        clear h10
        subst hw2
        refine ⟨_, rfl, ?_⟩
        go_simp
        refine hK _ _ (lay_in w [_, _, _] _) ?_
        clear hK K
        refine wpMP_quiet rfl (fun K hK => ?_); go_simp; refine hK _ ?_; clear hK K
        refine wpMP_nil ?_
        intro d1
        rw [lay_bw]
        go_wp2_with (go_at_call 111; refine (HBo2.out _).mono ?_; rintro e w' ⟨rfl, dM, rfl⟩)
        all_goals exact bodyPost_ret (v := .tuple #[(.agg #[.int .i64 (r1), .int .i64 (r2), .int .i64 (r3), .int .i64 (r4), .int .i64 (r5), .int .i64 (r6), .int .i64 (r7), .int .i64 (r8)]), .int .i64 0]) (by simp [results, Tryz.results30, go_sem]) rfl ⟨rfl, lay_ex _ _⟩
      · subst e
        have h0 := HR0.out rfl
        unfold g0 at h0
        cases h0
        refine lay_start ?_
        go_enter Tryz.func30, Tryz.ntmps30
        go_wp2_with (first | (go_at_call 106; refine (HV.out _).mono ?_; rintro e w' ⟨rfl, dV, rfl⟩))
        refine (HI.out _ _ (by simp only [lay_size, shp, posn, List.sum_cons, List.sum_nil]; omega) (fun d => by simp [go_sem])).mono ?_
        rintro e w' ⟨rfl, dJ, rfl⟩
        rw [lay_bw]
        go_wp2_with fail
        refine region_mixP [(0, 0), (1, 0), (2, 0), (3, 0), (4, 0), (5, 0), (6, 0), (7, 0), (9, 0), (8, 1), (10, 1), (11, 0)] (by kernel_rfl) (by kernel_rfl) (by kernel_rfl) (by kernel_rfl) (by decide) (by kernel_rfl) ?_
        simp only [List.drop_succ_cons, List.drop_zero, List.length_cons, List.length_nil, Nat.reduceAdd]
        iterate 9 (refine wpMP_quiet rfl (fun K hK => ?_); go_simp; refine hK _ ?_; clear hK K)
        refine wpMP_special rfl (fun K hK d0 => ?_)
        go_simp
        refine (HT.out _).mono ?_
        rintro e w' ⟨tA, tc, dT, rfl, rfl, -, hS⟩
        rw [lay_bw] at hS
        have HS := Lib.hid hS
        clear hS
        refine ⟨_, rfl, ?_⟩
        go_simp
        refine hK _ _ (lay_in w [_, _] _) ?_
        clear hK K
        refine wpMP_special rfl (fun K hK d2 => ?_)
        go_simp
        have h10 := HCn.out _ _ (slG_on (A := [.inr d2]) HS.out)
        simp only [List.cons_append, List.nil_append] at h10
        refine h10.mono ?_
        rintro e w' ⟨rfl, hw2⟩
        clear h10
        subst hw2
        refine ⟨_, rfl, ?_⟩
        go_simp
        refine hK _ _ (lay_in w [_, _, _] _) ?_
        clear hK K
        refine wpMP_quiet rfl (fun K hK => ?_); go_simp; refine hK _ ?_; clear hK K
        refine wpMP_nil ?_
        intro d1
        rw [lay_bw]
        go_wp2_with (go_at_call 111; refine (HBo2.out _).mono ?_; rintro e w' ⟨rfl, dM, rfl⟩)
        all_goals exact bodyPost_ret (v := .tuple #[(.agg #[.int .i64 (0), .int .i64 (0), .int .i64 (0), .int .i64 (0), .int .i64 (0), .int .i64 (0), .int .i64 (0), .int .i64 (0)]), .int .i64 20]) (by simp [results, Tryz.results30, go_sem]) rfl ⟨rfl, lay_ex _ _⟩
theorem alm_Where {P : Nat → Prop} (bk : Nat) (vd vp vs : Value) (lp : List PgV) (ls : List StarV) (s : ByteArray) (a b : Int) (w : World) (hB : BkL P w bk vd vp vs lp) (hv : SlG stR w vs ls) (hc : catB ls = true) :
    Calls Tryz.prog 30 #[.pointer (some ⟨bk, 0, none⟩), .string s, (.agg #[.int .i64 (a), .int .i64 (b)])] w fun e w' => e = .returned (.tuple #[gv (whR lp ls s a b).1, .int .i64 (whR lp ls s a b).2]) ∧ ∃ d, w' = bw w d := by
  cases whW lp ls s a b with
  | bad h => rw [whR_bad h]; exact alm_Where_bad bk s a b w h
  | name h k =>
    rw [whR_name h k]
    unfold knownB at k
    simp only [Bool.or_eq_false_iff, decide_eq_false_iff_not] at k
    obtain ⟨⟨k1, k2⟩, k3⟩ := k
    have hi : fndS ls s = -1 := by
      rcases idxR_bd (fun x : StarV => nmB x.s s) ls 0 with h | h
      · exact h
      · unfold fndS at k2; omega
    have := alm_Where_three bk vd vp vs lp ls s a b w hB hv h k1 hi
    rw [if_pos k3] at this
    exact this
  | wide h k d =>
    rw [whR_wide h k d]
    cases h4 : isA s
    · rcases idxR_cases (fun x : StarV => nmB x.s s) ls with ⟨h5, h6⟩ | ⟨i, x, h5, h6, h7, h8⟩
      · have := alm_Where_three bk vd vp vs lp ls s a b w hB hv h h4 h5
        unfold knownB at k
        rw [h4, show fndS ls s = -1 from h5] at k
        rw [if_neg (by simpa using k), if_pos d] at this
        exact this
      · exact alm_Where_wide2 bk vd vp vs ls i s a b w hB.bk hv h d h4 h5
    · exact alm_Where_wide1 bk vd vp vs ls s a b w hB.bk hv h d h4
  | aries h d k =>
    rw [whR_aries h d k]
    exact alm_Where_aries bk vd vp vs ls s a b w hB.bk hv (isA_list k) h d
  | star i x h d k f g e =>
    rw [whR_star h d k f e]
    obtain ⟨cn, cnum, cf⟩ := (catB_iff.1 hc).ok i x g
    obtain ⟨⟨h0, h1⟩, ⟨y0, y1⟩, -, -⟩ : (0 ≤ x.sha ∧ x.sha ≤ 215999) ∧ (-54000 ≤ x.dec ∧ x.dec ≤ 54000) ∧ -20 ≤ x.mag ∧ x.mag ≤ 150 := by simpa [numB] using cnum
    exact alm_Where_star bk vd vp vs ls i x s a b w hB.bk hv g f (isA_list k) h d h0 h1 y0 y1
  | body h d k f g c =>
    rw [whR_body h d k g c]
    have := alm_Where_three bk vd vp vs lp ls s a b w hB hv h k f
    rw [if_neg (by rw [c]; decide), if_neg (by omega)] at this
    exact this
end Go.Proofs.YtnnmfdeeicpdlaaGreat
/- The reference's Where. -/
namespace Go.Proofs.YtnnmfdeeicpdlaaGreat
set_option maxHeartbeats 2000000
set_option maxRecDepth 100000
open Go.RowKit Go.Shelf

theorem ref13_Dec (n : Int) (w : World) (h0 : -1000000000 ≤ n) (h1 : n ≤ 1000000000) :
    Calls Tryz.prog 144 #[.int .i64 n] w fun e w' => e = .returned (.agg #[.int .i64 (dcL n), .int .i64 (dcH n)]) ∧ ∃ d, w' = bw w d := by
  have HA := Lib.hid (fun W => ref13_Around n W h0 h1)
  have HL := Lib.hid (fun W => ref13_Latitude (100 * n - 50) (100 * n + 50) W)
  change Hid (∀ W, Calls Tryz.prog _ _ W fun e w' => e = .returned (.agg #[.int .i64 (dcL n), .int .i64 (dcH n)]) ∧ ∃ d, w' = bw W d) at HL
  generalize dcL n = x at *
  generalize dcH n = y at *
  refine lay_start ?_
  go_enter Tryz.func144, Tryz.ntmps144
  go_wp2_with (first | (go_at_call 143; refine (HA.out _).mono ?_; rintro e w' ⟨rfl, d, rfl⟩) | (go_at_call 205; refine (HL.out _).mono ?_; rintro e w' ⟨rfl, d, rfl⟩))
  all_goals exact bodyPost_ret (v := (.agg #[.int .i64 (x), .int .i64 (y)])) (by simp [results, Tryz.results144, go_sem]) rfl ⟨rfl, lay_ex _ _⟩
def TkPost (P : Nat → Prop) (w0 w : World) (p : Option TrkV) (e : Ending) (w' : World) : Prop :=
  match p with
  | none => e = .returned (.tuple #[.agg #[.string ⟨#[]⟩, .slice none 0 0, .slice none 0 0, .int .i64 0, .int .i64 0, .int .i64 0], .bool false]) ∧ ∃ d, w' = bw w d
  | some t => ∃ x : TkW, e = .returned (.tuple #[.agg #[.string x.s, .slice x.ga x.gn x.gc, .slice x.da x.dn x.dc, .int .i64 x.p, .int .i64 x.q, .int .i64 x.r], .bool true]) ∧ TkD P w0 x t ∧ tkR.wf x ∧ ∃ d, w' = bw w d
theorem ref17_track {P : Nat → Prop} (vp vs : Value) (lp : List PgV) (s : ByteArray) (n : Int) (w0 w : World) (hE : Below w0.heap.size w0 w) (hp : PgsD P w0 vp lp) (hok : ∀ p ∈ lp, PgOk p) :
    Calls Tryz.prog 146 #[.agg #[vp, vs], .string s, .int .i64 n] w (TkPost P w0 w (trkAt lp s n)) := by
  have hpw : PgsD P w vp lp := hp.keep hE.size fun b _ hb => hE.block b hb
  have HAt := Lib.hid (fun L => ref17_at vp vs lp n (lay w L) (hpw.lay L) hok)
  unfold IdxPost at HAt
  rcases idxR_cases (pgIs n) lp with ⟨h1, h2⟩ | ⟨i, p, h1, h2, h3, h4⟩
  · have ht : trkAt lp s n = none := by unfold trkAt; rw [h2]; rfl
    rw [ht]
    unfold pgAt at HAt
    rw [h1] at HAt
    unfold TkPost
    clear hp hpw hok hE h1 h2 ht
    refine lay_start ?_
    go_enter Tryz.func146, Tryz.ntmps146
    go_wp2_with (go_at_call 207; refine (HAt.out _).mono ?_; rintro e w' ⟨rfl, d1, rfl⟩)
    exact bodyPost_ret (v := .tuple #[.agg #[.string ⟨#[]⟩, .slice none 0 0, .slice none 0 0, .int .i64 0, .int .i64 0, .int .i64 0], .bool false]) (by simp [results, Tryz.results146, go_sem]) rfl ⟨rfl, lay_ex _ _⟩
  · unfold pgAt at HAt
    rw [h1] at HAt
    have hil := (List.getElem?_eq_some_iff.1 h2).1
    obtain ⟨q, hq⟩ : ∃ q, lp.length = q := ⟨_, rfl⟩
    obtain ⟨b, o, cap, rfl, hcc, hbb, -, hr⟩ := hp.open (by omega)
    rw [hq] at hcc hil
    rw [hq] at HAt hp hpw ⊢
    obtain ⟨x, hw, hD, c0, c1, c2, c3⟩ := hr i p h2
    have hb2 : b < w.heap.size := Nat.lt_of_lt_of_le hbb hE.size
    replace c0 := (hE.cell (p := ⟨b, o + i * 4, none⟩) hbb).trans c0
    replace c1 := (hE.cell (p := ⟨b, o + i * 4 + 1, none⟩) hbb).trans c1
    replace c2 := (hE.cell (p := ⟨b, o + i * 4 + 2, none⟩) hbb).trans c2
    replace c3 := (hE.cell (p := ⟨b, o + i * 4 + 3, none⟩) hbb).trans c3
    have HFd := Lib.hid (fun L => ref13_Find x.y x.m x.d (.slice x.ta x.tn x.tc) p.ts s (lay w L) ((hD.ts.keep hE.size fun b _ hb => hE.block b hb).lay L))
    unfold IdxPost at HFd
    have x1 : (i : Int) < (q : Int) := by omega
    have x0 : (0 : Int) ≤ (i : Int) := by omega
    have x2 : ¬ (i : Int) < 0 := by omega
    rcases idxR_cases (fun t : TrkV => nmB t.s s) p.ts with ⟨k1, k2⟩ | ⟨j, t, k1, k2, k3, k4⟩
    · have ht : trkAt lp s n = none := by unfold trkAt; rw [h3]; exact k2
      rw [ht]
      rw [show fndT p.ts s = -1 from k1] at HFd
      unfold TkPost
      clear hp hpw hok hE h1 h2 h3 h4 ht hr hw hD k1 k2 hq hbb
      obtain ⟨xy, xm, xd, xa, xn, xc⟩ := x
      dsimp only at c0 c1 c2 c3 HFd
      refine lay_start ?_
      go_enter Tryz.func146, Tryz.ntmps146
      go_wp2_with (first | (go_at_call 207; refine (HAt.out _).mono ?_; rintro e w' ⟨rfl, d1, rfl⟩) | (go_at_call 208; refine (HFd.out _).mono ?_; rintro e w' ⟨rfl, d2, rfl⟩))
      exact bodyPost_ret (v := .tuple #[.agg #[.string ⟨#[]⟩, .slice none 0 0, .slice none 0 0, .int .i64 0, .int .i64 0, .int .i64 0], .bool false]) (by simp [results, Tryz.results146, go_sem]) rfl ⟨rfl, lay_ex _ _⟩
    · have ht : trkAt lp s n = some t := by unfold trkAt; rw [h3]; exact k3
      rw [ht]
      rw [show fndT p.ts s = (j : Int) from k1] at HFd
      have hjl := (List.getElem?_eq_some_iff.1 k2).1
      obtain ⟨u, hu⟩ : ∃ u, p.ts.length = u := ⟨_, rfl⟩
      obtain ⟨b3, o3, cap3, hve, hcc3, hbb3, -, hr3⟩ := hD.ts.open (by omega)
      rw [hu] at hve hcc3 hjl
      obtain ⟨xy, xm, xd, xa, xn, xc⟩ := x
      cases hve
      dsimp only at c0 c1 c2 c3 HFd hcc3 hjl
      obtain ⟨z, hzw, hzD, e0, e1, e2, e3, e4, e5⟩ := hr3 j t k2
      have hb4 : b3 < w.heap.size := Nat.lt_of_lt_of_le hbb3 hE.size
      replace e0 := (hE.cell (p := ⟨b3, o3 + j * 6, none⟩) hbb3).trans e0
      replace e1 := (hE.cell (p := ⟨b3, o3 + j * 6 + 1, none⟩) hbb3).trans e1
      replace e2 := (hE.cell (p := ⟨b3, o3 + j * 6 + 2, none⟩) hbb3).trans e2
      replace e3 := (hE.cell (p := ⟨b3, o3 + j * 6 + 3, none⟩) hbb3).trans e3
      replace e4 := (hE.cell (p := ⟨b3, o3 + j * 6 + 4, none⟩) hbb3).trans e4
      replace e5 := (hE.cell (p := ⟨b3, o3 + j * 6 + 5, none⟩) hbb3).trans e5
      have HZ := Lib.hid hzD
      have HZw := Lib.hid hzw
      have y1 : (j : Int) < (xn : Int) := by omega
      have y0 : (0 : Int) ≤ (j : Int) := by omega
      have y2 : ¬ (j : Int) < 0 := by omega
      unfold TkPost
      clear hp hpw hok hE h1 h2 h3 h4 ht hr hw hD k1 k2 k3 k4 hr3 hzD hzw hq hbb hbb3
      obtain ⟨zs, za, zn, zc, zda, zdn, zdc, zp, zq, zr⟩ := z
      dsimp only at e0 e1 e2 e3 e4 e5
      refine lay_start ?_
      go_enter Tryz.func146, Tryz.ntmps146
      go_wp2_with (first | (go_at_call 207; refine (HAt.out _).mono ?_; rintro e w' ⟨rfl, d1, rfl⟩) | (go_at_call 208; refine (HFd.out _).mono ?_; rintro e w' ⟨rfl, d2, rfl⟩))
      exact bodyPost_ret (v := .tuple #[.agg #[.string zs, .slice za zn zc, .slice zda zdn zdc, .int .i64 zp, .int .i64 zq, .int .i64 zr], .bool true]) (by simp [results, Tryz.results146, go_sem]) rfl ⟨⟨zs, za, zn, zc, zda, zdn, zdc, zp, zq, zr⟩, rfl, HZ.out, HZw.out, lay_ex _ _⟩
theorem known_has (lp : List PgV) (ls : List StarV) (s : ByteArray) : hasB ([ariesS] ++ tkL lp ++ ls.map StarV.s) s = knownB lp ls s := by
  rw [Bool.eq_iff_iff, hasB_iff]
  unfold knownB
  rw [Bool.or_eq_true, Bool.or_eq_true, isA_iff, fndS_iff, Lib.containsS_iff, List.mem_append, List.mem_append, List.mem_singleton, List.mem_map]
  constructor
  · rintro ((h | h) | ⟨x, hx, h⟩)
    · exact .inl (.inl h)
    · exact .inr h
    · exact .inl (.inr ⟨x, hx, h⟩)
  · rintro ((h | ⟨x, hx, h⟩) | h)
    · exact .inl (.inl h)
    · exact .inr ⟨x, hx, h⟩
    · exact .inl (.inr h)
structure RfL (P : Nat → Prop) (w : World) (vp vs : Value) (lp : List PgV) (ls : List StarV) : Prop where
  pgs : PgsD P w vp lp
  sts : SlG stR w vs ls
  ok : ∀ p ∈ lp, PgOk p
  few : lp.length ≤ 40
  cat : catB ls = true
theorem RfL.fewL {P : Nat → Prop} {w : World} {vp vs : Value} {lp : List PgV} {ls : List StarV} (h : RfL P w vp vs lp ls) : Few lp := ⟨by have := h.few; omega, fun p hp => by have := (h.ok p hp).len; omega⟩
theorem RfL.bodies {P : Nat → Prop} {w : World} {vp vs : Value} {lp : List PgV} {ls : List StarV} (h : RfL P w vp vs lp ls) : Hid (∀ L, Calls Tryz.prog 140 #[.agg #[vp, vs]] (lay w L) (StrOwn (lay w L) ([ariesS] ++ tkL lp ++ ls.map StarV.s))) :=
  Lib.hid (fun L => ref17_Bodies vp vs lp ls (lay w L) (h.pgs.lay L) h.fewL (h.sts.lay L) (by have := (catB_iff.1 h.cat).len; omega))
theorem has_known (lp : List PgV) (ls : List StarV) (s : ByteArray) : Hid (∀ v W, SlG strR W v ([ariesS] ++ tkL lp ++ ls.map StarV.s) → Calls Tryz.prog 139 #[v, .string s] W fun e w' => e = .returned (.bool (knownB lp ls s)) ∧ ∃ d, w' = bw W d) :=
  Lib.hid (fun v W h => by rw [← known_has]; exact ref17_has v _ s W h)
theorem ref17_Where_early {P : Nat → Prop} (vp vs : Value) (lp : List PgV) (ls : List StarV) (s : ByteArray) (a b : Int) (w : World) (h : RfL P w vp vs lp ls) (hw : timB a b = false ∨ knownB lp ls s = false ∨ 86400000 ≤ b - a) :
    Calls Tryz.prog 60 #[.agg #[vp, vs], .string s, (.agg #[.int .i64 (a), .int .i64 (b)])] w fun e w' => e = .returned (.tuple #[gv g0, .int .i64 (if timB a b = false then 1 else if knownB lp ls s = false then 9 else 24)]) ∧ ∃ d, w' = bw w d := by
  have HV := Lib.hid (fun W => ref10_Valid a b W)
  have HBd := h.bodies
  have HHas := has_known lp ls s
  have hti := timB_iff (a := a) (b := b)
  clear h
  generalize timB a b = r at *
  generalize knownB lp ls s = k at *
  generalize [ariesS] ++ tkL lp ++ ls.map StarV.s = T at *
  cases r
  · rw [if_pos rfl]
    clear hw hti
    refine lay_start ?_
    go_enter Tryz.func60, Tryz.ntmps60
    go_wp2_with (first | (go_at_call 104; refine (HV.out _).mono ?_; rintro e w' ⟨rfl, dV, rfl⟩))
    exact bodyPost_ret (v := .tuple #[(.agg #[.int .i64 (0), .int .i64 (0), .int .i64 (0), .int .i64 (0), .int .i64 (0), .int .i64 (0), .int .i64 (0), .int .i64 (0)]), .int .i64 1]) (by simp [results, Tryz.results60, go_sem]) rfl ⟨rfl, lay_ex _ _⟩
  · rw [if_neg (by decide)]
    obtain ⟨g1, g2, g3⟩ := hti.1 rfl
    clear hti
    cases k
    · rw [if_pos rfl]
      clear hw g1 g2 g3
      refine lay_start ?_
      go_enter Tryz.func60, Tryz.ntmps60
      go_wp2_with (first | (go_at_call 104; refine (HV.out _).mono ?_; rintro e w' ⟨rfl, dV, rfl⟩))
      refine (HBd.out _).mono ?_
      rintro e w' ⟨vb, dB, rfl, rfl, hO⟩
      rw [lay_bw] at hO ⊢
      obtain ⟨ba, bc, rfl⟩ := hO.form
      have HO := Lib.hid (hO.sl strOk)
      clear hO
      go_wp2_with fail
      refine (HHas.out _ _ HO.out).mono ?_
      rintro e w' ⟨rfl, dH, rfl⟩
      rw [lay_bw]
      go_wp2_with fail
      exact bodyPost_ret (v := .tuple #[(.agg #[.int .i64 (0), .int .i64 (0), .int .i64 (0), .int .i64 (0), .int .i64 (0), .int .i64 (0), .int .i64 (0), .int .i64 (0)]), .int .i64 9]) (by simp [results, Tryz.results60, go_sem]) rfl ⟨rfl, lay_ex _ _⟩
    · rw [if_neg (by decide)]
      have hd : 86400000 ≤ b - a := by simpa using hw
      have z3 : decide ((86400000 : Int) ≤ wrap64 (b - a)) = true := decide_eq_true (by unfold wrap64; omega)
      clear hw g1 g2 g3
      refine lay_start ?_
      go_enter Tryz.func60, Tryz.ntmps60
      go_wp2_with (first | (go_at_call 104; refine (HV.out _).mono ?_; rintro e w' ⟨rfl, dV, rfl⟩))
      refine (HBd.out _).mono ?_
      rintro e w' ⟨vb, dB, rfl, rfl, hO⟩
      rw [lay_bw] at hO ⊢
      obtain ⟨ba, bc, rfl⟩ := hO.form
      have HO := Lib.hid (hO.sl strOk)
      clear hO
      go_wp2_with fail
      refine (HHas.out _ _ HO.out).mono ?_
      rintro e w' ⟨rfl, dH, rfl⟩
      rw [lay_bw]
      go_wp2_with fail
      exact bodyPost_ret (v := .tuple #[(.agg #[.int .i64 (0), .int .i64 (0), .int .i64 (0), .int .i64 (0), .int .i64 (0), .int .i64 (0), .int .i64 (0), .int .i64 (0)]), .int .i64 24]) (by simp [results, Tryz.results60, go_sem]) rfl ⟨rfl, lay_ex _ _⟩
theorem ref17_Where_aries {P : Nat → Prop} (vp vs : Value) (lp : List PgV) (ls : List StarV) (s : ByteArray) (a b : Int) (w : World) (h : RfL P w vp vs lp ls) (ht : timB a b = true) (hw : b - a < 86400000) (hs : isA s = true) :
    Calls Tryz.prog 60 #[.agg #[vp, vs], .string s, (.agg #[.int .i64 (a), .int .i64 (b)])] w fun e w' => e = .returned (.tuple #[gv ⟨agL a b, agH a b, 0, 0, 0, 0, 0, 0⟩, .int .i64 0]) ∧ ∃ d, w' = bw w d := by
  obtain ⟨g1, g2, g3⟩ := timB_iff.1 ht
  have HV := Lib.hid (fun W => ref10_Valid a b W)
  rw [ht] at HV
  have HBd := h.bodies
  have HHas := has_known lp ls s
  rw [known_aries hs] at HHas
  have HI := Lib.hid (fun W => ref12_Interval a b W (by omega) g1 (by omega) (ariF_le g1))
  change Hid (∀ W, Calls Tryz.prog _ _ W fun e w' => e = .returned (.agg #[.int .i64 (agL a b), .int .i64 (agH a b)]) ∧ ∃ d, w' = bw W d) at HI
  have z3 : decide ((86400000 : Int) ≤ wrap64 (b - a)) = false := decide_eq_false (by unfold wrap64; omega)
  have hs2 := isA_list hs
  unfold gv
  dsimp only
  clear h ht g1 g2 g3 hs
  generalize agL a b = x at *
  generalize agH a b = y at *
  generalize [ariesS] ++ tkL lp ++ ls.map StarV.s = T at *
  refine lay_start ?_
  go_enter Tryz.func60, Tryz.ntmps60
  go_wp2_with (first | (go_at_call 104; refine (HV.out _).mono ?_; rintro e w' ⟨rfl, dV, rfl⟩))
  refine (HBd.out _).mono ?_
  rintro e w' ⟨vb, dB, rfl, rfl, hO⟩
  rw [lay_bw] at hO ⊢
  obtain ⟨ba, bc, rfl⟩ := hO.form
  have HO := Lib.hid (hO.sl strOk)
  clear hO
  go_wp2_with fail
  refine (HHas.out _ _ HO.out).mono ?_
  rintro e w' ⟨rfl, dH, rfl⟩
  rw [lay_bw]
  go_wp2_with (go_at_call 141; refine (HI.out _).mono ?_; rintro e w' ⟨rfl, dI, rfl⟩)
  exact bodyPost_ret (v := .tuple #[(.agg #[.int .i64 (x), .int .i64 (y), .int .i64 (0), .int .i64 (0), .int .i64 (0), .int .i64 (0), .int .i64 (0), .int .i64 (0)]), .int .i64 0]) (by simp [results, Tryz.results60, go_sem]) rfl ⟨rfl, lay_ex _ _⟩
theorem ref17_Where_star {P : Nat → Prop} (vp vs : Value) (lp : List PgV) (ls : List StarV) (s : ByteArray) (i : Nat) (x : StarV) (a b : Int) (w : World) (h : RfL P w vp vs lp ls) (ht : timB a b = true) (hw : b - a < 86400000) (hs : isA s = false) (hi : fndS ls s = (i : Int)) (hx : ls[i]? = some x) :
    Calls Tryz.prog 60 #[.agg #[vp, vs], .string s, (.agg #[.int .i64 (a), .int .i64 (b)])] w fun e w' => e = .returned (.tuple #[gv ⟨sgL a b x.sha, sgH a b x.sha, dcL x.dec, dcH x.dec, 0, 0, 0, 0⟩, .int .i64 0]) ∧ ∃ d, w' = bw w d := by
  obtain ⟨g1, g2, g3⟩ := timB_iff.1 ht
  have HV := Lib.hid (fun W => ref10_Valid a b W)
  rw [ht] at HV
  have HBd := h.bodies
  have HHas := has_known lp ls s
  rw [known_star hi] at HHas
  have HI := Lib.hid (fun W => ref12_Interval a b W (by omega) g1 (by omega) (ariF_le g1))
  change Hid (∀ W, Calls Tryz.prog _ _ W fun e w' => e = .returned (.agg #[.int .i64 (agL a b), .int .i64 (agH a b)]) ∧ ∃ d, w' = bw W d) at HI
  obtain ⟨cn, cnum, cf⟩ := (catB_iff.1 h.cat).ok i x hx
  obtain ⟨⟨h0, h1⟩, ⟨y0, y1⟩, -, -⟩ : (0 ≤ x.sha ∧ x.sha ≤ 215999) ∧ (-54000 ≤ x.dec ∧ x.dec ≤ 54000) ∧ -20 ≤ x.mag ∧ x.mag ≤ 150 := by simpa [numB] using cnum
  have b1 := ag_bd g1
  have HA := Lib.hid (fun W => ref13_Around x.sha W (by omega) (by omega))
  have HD := Lib.hid (fun W => ref13_Dec x.dec W (by omega) (by omega))
  have HS := Lib.hid (fun W => ref05_Add (agL a b) (agH a b) (100 * x.sha - 50) (100 * x.sha + 50) W (by omega) (by omega) (by omega) (by omega))
  have HT := Lib.hid (fun W => ref05_Turn (agL a b + (100 * x.sha - 50)) (agH a b + (100 * x.sha + 50)) W (by omega) (by omega) (by omega))
  have HF := Lib.hid (fun L => ref16_Find vs ls s (lay w L) (h.sts.lay L))
  unfold IdxPost at HF
  rw [hi] at HF
  have z3 : decide ((86400000 : Int) ≤ wrap64 (b - a)) = false := decide_eq_false (by unfold wrap64; omega)
  have hs2 := isA_list hs
  have hil := (List.getElem?_eq_some_iff.1 hx).1
  obtain ⟨bs, os, cs, rfl, hcs, hbs, hr⟩ := h.sts.open (by omega)
  have r0 : w.cell? ⟨bs, os + i * 4, none⟩ = some (.string x.s) := hr i x hx 0 _ rfl
  have r1 : w.cell? ⟨bs, os + i * 4 + 1, none⟩ = some (.int .i64 x.sha) := hr i x hx 1 _ rfl
  have r2 : w.cell? ⟨bs, os + i * 4 + 2, none⟩ = some (.int .i64 x.dec) := hr i x hx 2 _ rfl
  have r3 : w.cell? ⟨bs, os + i * 4 + 3, none⟩ = some (.int .i64 x.mag) := hr i x hx 3 _ rfl
  have x0 : (0 : Int) ≤ (i : Int) := by omega
  have x1 : (i : Int) < (ls.length : Int) := by omega
  unfold sgL sgH gv
  dsimp only
  clear h ht g1 g2 g3 hs hi hx hr cn cnum cf b1
  generalize [ariesS] ++ tkL lp ++ ls.map StarV.s = T at *
  generalize ls.length = m at *
  generalize agL a b = p at *
  generalize agH a b = q at *
  generalize turnLo (p + (100 * x.sha - 50)) (q + (100 * x.sha + 50)) = t0 at *
  generalize turnHi (p + (100 * x.sha - 50)) (q + (100 * x.sha + 50)) = t1 at *
  obtain ⟨xs, xa, xb, xc⟩ := x
  dsimp only at *
  generalize dcL xb = u0 at *
  generalize dcH xb = u1 at *
  refine lay_start ?_
  go_enter Tryz.func60, Tryz.ntmps60
  go_wp2_with (first | (go_at_call 104; refine (HV.out _).mono ?_; rintro e w' ⟨rfl, dV, rfl⟩))
  refine (HBd.out _).mono ?_
  rintro e w' ⟨vb, dB, rfl, rfl, hO⟩
  rw [lay_bw] at hO ⊢
  obtain ⟨ba, bc, rfl⟩ := hO.form
  have HO := Lib.hid (hO.sl strOk)
  clear hO
  go_wp2_with fail
  refine (HHas.out _ _ HO.out).mono ?_
  rintro e w' ⟨rfl, dH, rfl⟩
  rw [lay_bw]
  go_wp2_with (go_at_call 102; refine (HF.out _).mono ?_; rintro e w' ⟨rfl, dI, rfl⟩)
  refine region_mixS 19 [(0, 0), (1, 0), (2, 0), (3, 0), (4, 0), (5, 0), (6, 0), (7, 0), (8, 0), (9, 0), (10, 0), (11, 0), (12, 0), (13, 0), (14, 0), (15, 0), (16, 0), (17, 0), (18, 0), (19, 3), (20, 2)] (by kernel_rfl) (by kernel_rfl) (by kernel_rfl) rfl ?_
  repeat (first | (refine wpMS_pure rfl (fun K hK => ?_); go_simp; refine hK _ ?_; clear hK K) | (refine wpMS_quiet rfl (fun K hK => ?_); go_simp; first | (refine hK _ ?_; clear hK K) | (apply Exists.intro; refine ⟨fun _ => ?_, hK _ ?_⟩; (first | ((with_reducible refine bq (HI.out _) ?_); exact (fun d => lay_join _ _ _ d)) | ((with_reducible refine bq (HI.out _) ?_); exact (fun d => ⟨d, rfl⟩)) | ((with_reducible refine bq (HA.out _) ?_); exact (fun d => lay_join _ _ _ d)) | ((with_reducible refine bq (HA.out _) ?_); exact (fun d => ⟨d, rfl⟩)) | ((with_reducible refine bq (HS.out _) ?_); exact (fun d => lay_join _ _ _ d)) | ((with_reducible refine bq (HS.out _) ?_); exact (fun d => ⟨d, rfl⟩)) | ((with_reducible refine bq (HT.out _) ?_); exact (fun d => lay_join _ _ _ d)) | ((with_reducible refine bq (HT.out _) ?_); exact (fun d => ⟨d, rfl⟩)) | ((with_reducible refine bq (HD.out _) ?_); exact (fun d => lay_join _ _ _ d)) | ((with_reducible refine bq (HD.out _) ?_); exact (fun d => ⟨d, rfl⟩))); clear hK K)))
  refine wpMS_store rfl (fun K hK e1 => ?_)
  rw [lay_bw]
  go_simp
  refine hK _ _ ?_
  clear hK K
  repeat (first | (refine wpMS_pure rfl (fun K hK => ?_); go_simp; refine hK _ ?_; clear hK K) | (refine wpMS_quiet rfl (fun K hK => ?_); go_simp; first | (refine hK _ ?_; clear hK K) | (apply Exists.intro; refine ⟨fun _ => ?_, hK _ ?_⟩; (first | fail); clear hK K)))
  refine wpMS_nil ?_
  intro d9
  rw [lay_bw]
  go_wp2_with fail
  exact bodyPost_ret (v := .tuple #[(.agg #[.int .i64 (t0), .int .i64 (t1), .int .i64 (u0), .int .i64 (u1), .int .i64 (0), .int .i64 (0), .int .i64 (0), .int .i64 (0)]), .int .i64 0]) (by simp [results, Tryz.results60, go_sem]) rfl ⟨rfl, lay_ex _ _⟩
end Go.Proofs.YtnnmfdeeicpdlaaGreat
/- The reference's Where at tracks, and in full. -/
namespace Go.Proofs.YtnnmfdeeicpdlaaGreat
open Go.RowKit Go.Shelf

set_option maxHeartbeats 4000000 in
set_option maxRecDepth 100000 in
theorem ref17_Where_body {P : Nat → Prop} (vp vs : Value) (lp : List PgV) (ls : List StarV) (s : ByteArray) (a b : Int) (w : World) (h : RfL P w vp vs lp ls) (ht : timB a b = true) (hw : b - a < 86400000) (hs : isA s = false) (hi : fndS ls s = -1) (hk : Lib.containsS (tkL lp) s = true) :
    Calls Tryz.prog 60 #[.agg #[vp, vs], .string s, (.agg #[.int .i64 (a), .int .i64 (b)])] w fun e w' => e = .returned (.tuple #[gv (bodyR lp s a b).1, .int .i64 (bodyR lp s a b).2]) ∧ ∃ d, w' = bw w d := by
  obtain ⟨g1, g2, g3⟩ := timB_iff.1 ht
  have HV := Lib.hid (fun W => ref10_Valid a b W)
  rw [ht] at HV
  have HBd := h.bodies
  have HHas := has_known lp ls s
  rw [known_body hk] at HHas
  have HF := Lib.hid (fun L => ref16_Find vs ls s (lay w L) (h.sts.lay L))
  unfold IdxPost at HF
  rw [hi] at HF
  have z3 : decide ((86400000 : Int) ≤ wrap64 (b - a)) = false := decide_eq_false (by unfold wrap64; omega)
  have hs2 := isA_list hs
  have HDa := Lib.hid (fun W => ref17_Day a W (by omega) (by omega))
  have HDb := Lib.hid (fun W => ref17_Day b W (by omega) (by omega))
  obtain ⟨m1, m2, m3, m4⟩ := day_bd (a := a) (by omega) (by omega)
  obtain ⟨n1, n2, n3, n4⟩ := day_bd (a := b) (by omega) (by omega)
  have HTr := Lib.hid (fun n L => ref17_track vp vs lp s n w (lay w L) (lay_extends w L) h.pgs h.ok)
  have HOk := Lib.hid (fun n t hh => trkAt_ok (n := n) (t := t) (s := s) h.ok hh)
  have HSp := Lib.hid (fun v t lo hi L (hv : Trk w v t) ht h0 h1 h2 => ref17_span v t lo hi (lay w L) (hv.lay L) ht h0 h1 h2)
  have q0 : IntKind.i64.wrap (a / 86400000 * 86400000) = a / 86400000 * 86400000 := IntWalk.i64_in _ (by omega)
  have q1 : IntKind.i64.wrap (a - a / 86400000 * 86400000) = a - a / 86400000 * 86400000 := IntWalk.i64_in _ (by omega)
  have q2 : IntKind.i64.wrap (b - a / 86400000 * 86400000) = b - a / 86400000 * 86400000 := IntWalk.i64_in _ (by omega)
  have q3 : IntKind.i64.wrap (b / 86400000 * 86400000) = b / 86400000 * 86400000 := IntWalk.i64_in _ (by omega)
  have q4 : IntKind.i64.wrap (b - b / 86400000 * 86400000) = b - b / 86400000 * 86400000 := IntWalk.i64_in _ (by omega)
  obtain ⟨sa, sc, rfl⟩ := h.sts.form
  clear h ht hs hi hk
  generalize [ariesS] ++ tkL lp ++ ls.map StarV.s = T at *
  generalize ls.length = m at *
  cases h1 : trkAt lp s (a / 86400000) with
  | none =>
    rw [bodyR_no h1]
    have HT1 := Lib.hid (fun L => HTr.out (a / 86400000) L)
    rw [h1] at HT1
    unfold TkPost at HT1
    clear h1 HTr HSp HOk
    generalize a / 86400000 = A at *
    generalize b / 86400000 = B at *
    refine lay_start ?_
    go_enter Tryz.func60, Tryz.ntmps60
    go_wp2_with (first | (go_at_call 104; refine (HV.out _).mono ?_; rintro e w' ⟨rfl, dV, rfl⟩))
    refine (HBd.out _).mono ?_
    rintro e w' ⟨vb, dB, rfl, rfl, hO⟩
    rw [lay_bw] at hO ⊢
    obtain ⟨ba, bc, rfl⟩ := hO.form
    have HO := Lib.hid (hO.sl strOk)
    clear hO
    go_wp2_with fail
    refine (HHas.out _ _ HO.out).mono ?_
    rintro e w' ⟨rfl, dH, rfl⟩
    rw [lay_bw]
    go_wp2_with (go_at_call 102; refine (HF.out _).mono ?_; rintro e w' ⟨rfl, dI, rfl⟩)
    refine region_bw (by kernel_rfl) (by kernel_rfl) ?_
    repeat (go_big_quiet_step ((first | ((with_reducible refine bqs (HDa.out _) ?_); exact ⟨_, rfl⟩) | ((with_reducible refine bqs (HDb.out _) ?_); exact ⟨_, rfl⟩))))
    refine wpQuiet_nil ?_
    rintro w' ⟨d, rfl⟩
    rw [lay_bw]
    go_wp2_with (go_at_call 146; refine (HT1.out _).mono ?_; rintro e w' ⟨rfl, dT, rfl⟩)
    exact bodyPost_ret (v := .tuple #[(.agg #[.int .i64 (0), .int .i64 (0), .int .i64 (0), .int .i64 (0), .int .i64 (0), .int .i64 (0), .int .i64 (0), .int .i64 (0)]), .int .i64 20]) (by simp [results, Tryz.results60, go_sem]) rfl ⟨rfl, lay_ex _ _⟩
  | some t =>
    have hO1 := HOk.out _ _ h1
    have HT1 := Lib.hid (fun L => HTr.out (a / 86400000) L)
    rw [h1] at HT1
    unfold TkPost at HT1
    by_cases e : a / 86400000 = b / 86400000
    · rw [bodyR_one h1 e]
      have HS1 := Lib.hid (fun v L hv => HSp.out v t (a - a / 86400000 * 86400000) (b - a / 86400000 * 86400000) L hv hO1 m3 (by omega) (by omega))
      obtain ⟨X, hX⟩ : ∃ X, spanV t (a - a / 86400000 * 86400000) (b - a / 86400000 * 86400000) = X := ⟨_, rfl⟩
      rw [hX] at HS1 ⊢
      clear h1 HTr HSp HOk hO1 hX
      obtain ⟨x1, x2, x3, x4, x5, x6, x7, x8⟩ := X
      unfold gv at *
      dsimp only at *
      generalize a / 86400000 = A at *
      generalize b / 86400000 = B at *
      subst e
      refine lay_start ?_
      go_enter Tryz.func60, Tryz.ntmps60
      go_wp2_with (first | (go_at_call 104; refine (HV.out _).mono ?_; rintro e w' ⟨rfl, dV, rfl⟩))
      refine (HBd.out _).mono ?_
      rintro e w' ⟨vb, dB, rfl, rfl, hO⟩
      rw [lay_bw] at hO ⊢
      obtain ⟨ba, bc, rfl⟩ := hO.form
      have HO := Lib.hid (hO.sl strOk)
      clear hO
      go_wp2_with fail
      refine (HHas.out _ _ HO.out).mono ?_
      rintro e w' ⟨rfl, dH, rfl⟩
      rw [lay_bw]
      go_wp2_with (go_at_call 102; refine (HF.out _).mono ?_; rintro e w' ⟨rfl, dI, rfl⟩)
      refine region_bw (by kernel_rfl) (by kernel_rfl) ?_
      repeat (go_big_quiet_step ((first | ((with_reducible refine bqs (HDa.out _) ?_); exact ⟨_, rfl⟩) | ((with_reducible refine bqs (HDb.out _) ?_); exact ⟨_, rfl⟩))))
      refine wpQuiet_nil ?_
      rintro w' ⟨d, rfl⟩
      rw [lay_bw]
      go_wp2_with fail
      refine (HT1.out _).mono ?_
      rintro e w' ⟨x, rfl, hD, hx, dT, rfl⟩
      have HK := Lib.hid (fun L => HS1.out _ L (hD.trk hx))
      clear hD hx
      obtain ⟨zs, za, zn, zc, zda, zdn, zdc, zp, zq, zr⟩ := x
      change Hid (∀ L, Calls Tryz.prog _ #[.agg #[.string zs, .slice za zn zc, .slice zda zdn zdc, .int .i64 zp, .int .i64 zq, .int .i64 zr], _, _] (lay w L) _) at HK
      dsimp only
      go_wp2_with (go_at_call 147; refine (HK.out _).mono ?_; rintro e w' ⟨rfl, dS, rfl⟩)
      exact bodyPost_ret (v := .tuple #[(.agg #[.int .i64 (x1), .int .i64 (x2), .int .i64 (x3), .int .i64 (x4), .int .i64 (x5), .int .i64 (x6), .int .i64 (x7), .int .i64 (x8)]), .int .i64 0]) (by simp [results, Tryz.results60, go_sem]) rfl ⟨rfl, lay_ex _ _⟩
    · have HT2 := Lib.hid (fun L => HTr.out (b / 86400000) L)
      cases h2 : trkAt lp s (b / 86400000) with
      | none =>
        rw [bodyR_no2 h1 e h2]
        rw [h2] at HT2
        unfold TkPost at HT2
        clear h1 h2 HTr HSp HOk hO1
        generalize a / 86400000 = A at *
        generalize b / 86400000 = B at *
        have t1 : (A == B) = false := beq_eq_false_iff_ne.2 e
        refine lay_start ?_
        go_enter Tryz.func60, Tryz.ntmps60
        go_wp2_with (first | (go_at_call 104; refine (HV.out _).mono ?_; rintro e w' ⟨rfl, dV, rfl⟩))
        refine (HBd.out _).mono ?_
        rintro e w' ⟨vb, dB, rfl, rfl, hO⟩
        rw [lay_bw] at hO ⊢
        obtain ⟨ba, bc, rfl⟩ := hO.form
        have HO := Lib.hid (hO.sl strOk)
        clear hO
        go_wp2_with fail
        refine (HHas.out _ _ HO.out).mono ?_
        rintro e w' ⟨rfl, dH, rfl⟩
        rw [lay_bw]
        go_wp2_with (go_at_call 102; refine (HF.out _).mono ?_; rintro e w' ⟨rfl, dI, rfl⟩)
        refine region_bw (by kernel_rfl) (by kernel_rfl) ?_
        repeat (go_big_quiet_step ((first | ((with_reducible refine bqs (HDa.out _) ?_); exact ⟨_, rfl⟩) | ((with_reducible refine bqs (HDb.out _) ?_); exact ⟨_, rfl⟩))))
        refine wpQuiet_nil ?_
        rintro w' ⟨d, rfl⟩
        rw [lay_bw]
        go_wp2_with fail
        refine (HT1.out _).mono ?_
        rintro e w' ⟨x, rfl, -, -, dT, rfl⟩
        obtain ⟨zs, za, zn, zc, zda, zdn, zdc, zp, zq, zr⟩ := x
        dsimp only
        go_wp2_with fail
        refine (HT2.out _).mono ?_
        rintro e w' ⟨rfl, dU, rfl⟩
        go_wp2_with fail
        exact bodyPost_ret (v := .tuple #[(.agg #[.int .i64 (0), .int .i64 (0), .int .i64 (0), .int .i64 (0), .int .i64 (0), .int .i64 (0), .int .i64 (0), .int .i64 (0)]), .int .i64 20]) (by simp [results, Tryz.results60, go_sem]) rfl ⟨rfl, lay_ex _ _⟩
      | some u =>
        have hO2 := HOk.out _ _ h2
        rw [bodyR_two h1 e h2]
        rw [h2] at HT2
        unfold TkPost at HT2
        have HS1 := Lib.hid (fun v L hv => HSp.out v t (a - a / 86400000 * 86400000) 86400000 L hv hO1 m3 (by omega) (by omega))
        have HS2 := Lib.hid (fun v L hv => HSp.out v u 0 (b - b / 86400000 * 86400000) L hv hO2 (by omega) (by omega) (by omega))
        have hX : TF (spanV t (a - a / 86400000 * 86400000) 86400000).a (spanV t (a - a / 86400000 * 86400000) 86400000).b := tf_turn (ghaO_le hO1 _ _)
        have hY : TF (spanV u 0 (b - b / 86400000 * 86400000)).a (spanV u 0 (b - b / 86400000 * 86400000)).b := tf_turn (ghaO_le hO2 _ _)
        obtain ⟨X, hXe⟩ : ∃ X, spanV t (a - a / 86400000 * 86400000) 86400000 = X := ⟨_, rfl⟩
        obtain ⟨Y, hYe⟩ : ∃ Y, spanV u 0 (b - b / 86400000 * 86400000) = Y := ⟨_, rfl⟩
        rw [hXe] at HS1 hX ⊢
        rw [hYe] at HS2 hY ⊢
        clear h1 h2 HTr HSp HOk hO1 hO2 hXe hYe
        obtain ⟨x1, x2, x3, x4, x5, x6, x7, x8⟩ := X
        obtain ⟨y1, y2, y3, y4, y5, y6, y7, y8⟩ := Y
        unfold joinV
        unfold gv at *
        dsimp only at *
        have HJ := Lib.hid (fun W => ref17_Join x1 x2 y1 y2 W hX hY)
        have HH1 := Lib.hid (fun W => ref05_Hull x3 x4 y3 y4 W)
        have HH2 := Lib.hid (fun W => ref05_Hull x5 x6 y5 y6 W)
        have HH3 := Lib.hid (fun W => ref05_Hull x7 x8 y7 y8 W)
        clear hX hY
        generalize turnLo (hulL x1 y1) (hulH x1 x2 y1 y2) = j1 at *
        generalize turnHi (hulL x1 y1) (hulH x1 x2 y1 y2) = j2 at *
        generalize mn x3 y3 = j3 at *
        generalize mx x4 y4 = j4 at *
        generalize mn x5 y5 = j5 at *
        generalize mx x6 y6 = j6 at *
        generalize mn x7 y7 = j7 at *
        generalize mx x8 y8 = j8 at *
        generalize a / 86400000 = A at *
        generalize b / 86400000 = B at *
        have t1 : (A == B) = false := beq_eq_false_iff_ne.2 e
        refine lay_start ?_
        go_enter Tryz.func60, Tryz.ntmps60
        go_wp2_with (first | (go_at_call 104; refine (HV.out _).mono ?_; rintro e w' ⟨rfl, dV, rfl⟩))
        refine (HBd.out _).mono ?_
        rintro e w' ⟨vb, dB, rfl, rfl, hO⟩
        rw [lay_bw] at hO ⊢
        obtain ⟨ba, bc, rfl⟩ := hO.form
        have HO := Lib.hid (hO.sl strOk)
        clear hO
        go_wp2_with fail
        refine (HHas.out _ _ HO.out).mono ?_
        rintro e w' ⟨rfl, dH, rfl⟩
        rw [lay_bw]
        go_wp2_with (go_at_call 102; refine (HF.out _).mono ?_; rintro e w' ⟨rfl, dI, rfl⟩)
        refine region_bw (by kernel_rfl) (by kernel_rfl) ?_
        repeat (go_big_quiet_step ((first | ((with_reducible refine bqs (HDa.out _) ?_); exact ⟨_, rfl⟩) | ((with_reducible refine bqs (HDb.out _) ?_); exact ⟨_, rfl⟩))))
        refine wpQuiet_nil ?_
        rintro w' ⟨d, rfl⟩
        rw [lay_bw]
        go_wp2_with fail
        refine (HT1.out _).mono ?_
        rintro e w' ⟨x, rfl, hD, hx, dT, rfl⟩
        have HK := Lib.hid (fun L => HS1.out _ L (hD.trk hx))
        clear hD hx
        obtain ⟨zs, za, zn, zc, zda, zdn, zdc, zp, zq, zr⟩ := x
        change Hid (∀ L, Calls Tryz.prog _ #[.agg #[.string zs, .slice za zn zc, .slice zda zdn zdc, .int .i64 zp, .int .i64 zq, .int .i64 zr], _, _] (lay w L) _) at HK
        dsimp only
        go_wp2_with fail
        refine (HT2.out _).mono ?_
        rintro e w' ⟨x, rfl, hD, hx, dU, rfl⟩
        have HK2 := Lib.hid (fun L => HS2.out _ L (hD.trk hx))
        clear hD hx
        obtain ⟨us, ua, un, uc, uda, udn, udc, up, uq, ur⟩ := x
        change Hid (∀ L, Calls Tryz.prog _ #[.agg #[.string us, .slice ua un uc, .slice uda udn udc, .int .i64 up, .int .i64 uq, .int .i64 ur], _, _] (lay w L) _) at HK2
        dsimp only
        go_wp2_with (first | (go_at_call 147; (with_reducible refine (HK.out _).mono ?_); rintro e w' ⟨rfl, dS, rfl⟩) | (go_at_call 147; (with_reducible refine (HK2.out _).mono ?_); rintro e w' ⟨rfl, dR, rfl⟩))
        refine region_mixS 21 [(0, 0), (1, 0), (2, 0), (3, 0), (4, 0), (5, 0), (6, 0), (7, 0), (8, 0), (9, 0), (10, 0), (11, 0), (12, 0), (13, 0), (14, 0), (15, 0), (16, 0), (17, 0), (18, 0), (19, 0), (20, 0), (21, 3), (22, 2)] (by kernel_rfl) (by kernel_rfl) (by kernel_rfl) rfl ?_
        repeat (first | (refine wpMS_pure rfl (fun K hK => ?_); go_simp; refine hK _ ?_; clear hK K) | (refine wpMS_quiet rfl (fun K hK => ?_); go_simp; first | (refine hK _ ?_; clear hK K) | (apply Exists.intro; refine ⟨fun _ => ?_, hK _ ?_⟩; (first | ((with_reducible refine bq (HJ.out _) ?_); exact (fun d => lay_join _ _ _ d)) | ((with_reducible refine bq (HJ.out _) ?_); exact (fun d => ⟨d, rfl⟩)) | ((with_reducible refine bq (HH1.out _) ?_); exact (fun d => lay_join _ _ _ d)) | ((with_reducible refine bq (HH1.out _) ?_); exact (fun d => ⟨d, rfl⟩)) | ((with_reducible refine bq (HH2.out _) ?_); exact (fun d => lay_join _ _ _ d)) | ((with_reducible refine bq (HH2.out _) ?_); exact (fun d => ⟨d, rfl⟩)) | ((with_reducible refine bq (HH3.out _) ?_); exact (fun d => lay_join _ _ _ d)) | ((with_reducible refine bq (HH3.out _) ?_); exact (fun d => ⟨d, rfl⟩))); clear hK K)))
        refine wpMS_store rfl (fun K hK e1 => ?_)
        rw [lay_bw]
        go_simp
        refine hK _ _ ?_
        clear hK K
        repeat (first | (refine wpMS_pure rfl (fun K hK => ?_); go_simp; refine hK _ ?_; clear hK K) | (refine wpMS_quiet rfl (fun K hK => ?_); go_simp; first | (refine hK _ ?_; clear hK K) | (apply Exists.intro; refine ⟨fun _ => ?_, hK _ ?_⟩; (first | fail); clear hK K)))
        refine wpMS_nil ?_
        intro d9
        rw [lay_bw]
        go_wp2_with fail
        exact bodyPost_ret (v := .tuple #[(.agg #[.int .i64 (j1), .int .i64 (j2), .int .i64 (j3), .int .i64 (j4), .int .i64 (j5), .int .i64 (j6), .int .i64 (j7), .int .i64 (j8)]), .int .i64 0]) (by simp [results, Tryz.results60, go_sem]) rfl ⟨rfl, lay_ex _ _⟩
theorem ref17_Where {P : Nat → Prop} (vp vs : Value) (lp : List PgV) (ls : List StarV) (s : ByteArray) (a b : Int) (w : World) (h : RfL P w vp vs lp ls) :
    Calls Tryz.prog 60 #[.agg #[vp, vs], .string s, (.agg #[.int .i64 (a), .int .i64 (b)])] w fun e w' => e = .returned (.tuple #[gv (whR lp ls s a b).1, .int .i64 (whR lp ls s a b).2]) ∧ ∃ d, w' = bw w d := by
  cases whW lp ls s a b with
  | bad k =>
    have := ref17_Where_early vp vs lp ls s a b w h (.inl k)
    rw [if_pos k] at this
    rw [whR_bad k]; exact this
  | name t k =>
    have := ref17_Where_early vp vs lp ls s a b w h (.inr (.inl k))
    rw [if_neg (by rw [t]; decide), if_pos k] at this
    rw [whR_name t k]; exact this
  | wide t k d =>
    have := ref17_Where_early vp vs lp ls s a b w h (.inr (.inr d))
    rw [if_neg (by rw [t]; decide), if_neg (by rw [k]; decide)] at this
    rw [whR_wide t k d]; exact this
  | aries t d k => rw [whR_aries t d k]; exact ref17_Where_aries vp vs lp ls s a b w h t d k
  | star i x t d k f g e => rw [whR_star t d k f e]; exact ref17_Where_star vp vs lp ls s i x a b w h t d k f g
  | body t d k f g c => rw [whR_body t d k g c]; exact ref17_Where_body vp vs lp ls s a b w h t d k f c
end Go.Proofs.YtnnmfdeeicpdlaaGreat
/- almanac.New by its error number; the law's made in full; a book that is made. -/
namespace Go.Proofs.YtnnmfdeeicpdlaaGreat
open Go.RowKit Go.Shelf

structure NewOk (lp : List PgV) (ls : List StarV) : Prop where
  few : lp.length ≤ 40
  ok : ∀ p ∈ lp, PgOk p
  cat : catB ls = true
  ord : OrdK lp lp.length
  tw : twB lp ls = false
theorem newE_0 {lp : List PgV} {ls : List StarV} (h : newE lp ls = 0) : NewOk lp ls := by
  unfold newE at h
  split at h
  · cases h
  · split at h
    · cases h
    · rename_i h1 h2
      split at h
      · cases h
      · rename_i h3
        split at h
        · cases h
        · rename_i h4
          rw [not_or] at h2
          have hb : badP lp = false := by cases e : badP lp; rfl; exact absurd e h2.1
          exact ⟨by omega, bad_all hb, by cases e : catB ls; exact absurd e h2.2; rfl, by simpa using h3, by cases e : twB lp ls; rfl; exact absurd e h4⟩
theorem alm_New_no {P : Nat → Prop} (vp vs : Value) (lp : List PgV) (ls : List StarV) (w : World) (hp : PgsD P w vp lp) (hP : ∀ b, P b → b < w.heap.size) (hv : SlG stR w vs ls) (h : newE lp ls ≠ 0) :
    Calls Tryz.prog 12 #[vp, vs] w fun e w' => e = .returned (.tuple #[.pointer none, .int .i64 (newE lp ls)]) ∧ ∃ d, w' = bw w d := by
  by_cases h1 : 40 < lp.length
  · rw [← newE_full (ls := ls) h1]; exact alm_New_full vp vs lp w hp h1
  · by_cases h2 : badP lp = true ∨ catB ls = false
    · rw [← newE_arg (by omega) h2]; exact alm_New_arg vp vs lp ls w hp hv (by omega) h2
    · rw [not_or] at h2
      have hb : badP lp = false := by cases e : badP lp; rfl; exact absurd e h2.1
      have hc : catB ls = true := by cases e : catB ls; exact absurd e h2.2; rfl
      refine (alm_New_main vp vs lp ls w hp hP hv (by omega) hb hc).mono fun e w' hh => ?_
      rcases hh with ⟨o, t, _⟩ | ⟨o, t, k⟩ | ⟨o, k⟩
      · exact absurd (newE_ok (by omega) hb hc o t).symm h
      · rw [← newE_tw (by omega) hb hc o t]; exact k
      · rw [← newE_ord (by omega) hb hc o]; exact k
theorem alm_New_yes {P : Nat → Prop} (vp vs : Value) (lp : List PgV) (ls : List StarV) (w : World) (hp : PgsD P w vp lp) (hP : ∀ b, P b → b < w.heap.size) (hv : SlG stR w vs ls) (h : newE lp ls = 0) :
    Calls Tryz.prog 12 #[vp, vs] w (NewPost w lp ls) := by
  have h1 : ¬ 40 < lp.length := fun h1 => by have := newE_full (ls := ls) h1; omega
  have h2 : ¬ (badP lp = true ∨ catB ls = false) := fun h2 => by have := newE_arg (by omega) h2; omega
  rw [not_or] at h2
  have hb : badP lp = false := by cases e : badP lp; rfl; exact absurd e h2.1
  have hc : catB ls = true := by cases e : catB ls; exact absurd e h2.2; rfl
  refine (alm_New_main vp vs lp ls w hp hP hv (by omega) hb hc).mono fun e w' hh => ?_
  rcases hh with ⟨o, t, k⟩ | ⟨o, t, k⟩ | ⟨o, k⟩
  · exact k
  · have := newE_tw (by omega) hb hc o t; omega
  · have := newE_ord (by omega) hb hc o; omega
theorem BkA.bw {w : World} {bk : Nat} {lp : List PgV} {ls : List StarV} {W : World} (h : BkA w bk lp ls W) (L : List (Obj ⊕ Ext)) : BkA w bk lp ls (lay W L) := by
  obtain ⟨h0, vd, vp, vs, h1, h2, h3, h4, h5, h6⟩ := h
  exact ⟨h0, vd, vp, vs, h1.lay L, h2.lay L, h3, h4.lay L, h5.lay L, h6⟩
theorem BkA.open {w : World} {bk : Nat} {lp : List PgV} {ls : List StarV} {W : World} (h : BkA w bk lp ls W) (k : NewOk lp ls) : ∃ vd vp vs, BkL (fun b => w.heap.size ≤ b ∧ b ≠ bk) W bk vd vp vs lp ∧ SlG stR W vs ls := by
  obtain ⟨h0, vd, vp, vs, h1, h2, h3, h4, h5, h6⟩ := h
  exact ⟨vd, vp, vs, ⟨h1, h2, h4, k.ord, k.ok, k.few⟩, h5⟩
theorem made_Where {w : World} {bk : Nat} {lp : List PgV} {ls : List StarV} {W : World} (h : BkA w bk lp ls W) (k : NewOk lp ls) : Hid (∀ s a b L, Calls Tryz.prog 30 #[.pointer (some ⟨bk, 0, none⟩), .string s, (.agg #[.int .i64 (a), .int .i64 (b)])] (lay W L) fun e w' => e = .returned (.tuple #[gv (whR lp ls s a b).1, .int .i64 (whR lp ls s a b).2]) ∧ ∃ d, w' = bw (lay W L) d) := by
  obtain ⟨vd, vp, vs, h1, h2⟩ := h.open k
  exact Lib.hid (fun s a b L => alm_Where bk vd vp vs lp ls s a b (lay W L) (h1.lay L) (h2.lay L) k.cat)
end Go.Proofs.YtnnmfdeeicpdlaaGreat

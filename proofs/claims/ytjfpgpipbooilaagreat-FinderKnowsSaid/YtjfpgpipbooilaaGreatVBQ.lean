/- Contracts and plain laws, several texts in one: Wh4 -/
import Derived.Test.YtjfpgpipbooilaaGreatProg
import Derived.WalkKit
import Derived.WalkSpells
import Derived.WalkLawsBesides
import Derived.Lib.Hide
import Derived.BigQuiet
import Derived.Test.YtjfpgpipbooilaaGreatVAA
import Derived.Test.YtjfpgpipbooilaaGreatVAB
import Derived.Test.YtjfpgpipbooilaaGreatVBP
/- (*almanac.Book).during where there is a track; body. -/
namespace Go.Proofs.YtjfpgpipbooilaaGreat
set_option maxHeartbeats 4000000
set_option maxRecDepth 100000
open Go.RowKit Go.Shelf

theorem inst_ok {t : TrkV} {ms : Int} (h : trkB t = true) (h0 : 0 ≤ ms) (h1 : ms ≤ 86400000) : instE t ms = 0 := instE_0.2 ⟨h, h0, h1⟩
theorem alm_during {P : Nat → Prop} (bk : Nat) (vd vp vs : Value) (lp : List PgV) (s : ByteArray) (n lo hi : Int) (t : TrkV) (w : World) (hB : BkL P w bk vd vp vs lp) (h : trkAt lp s n = some t) (l0 : 0 ≤ lo) (l1 : lo ≤ hi) (l2 : hi ≤ 86400000) :
    Calls Tryz.prog 85 #[.pointer (some ⟨bk, 0, none⟩), .string s, .int .i64 n, .int .i64 lo, .int .i64 hi] w fun e w' => e = .returned (.tuple #[gv (spanV t lo hi), .int .i64 0]) ∧ ∃ d, w' = bw w d := by
  have HPg := Lib.hid (fun L => alm_page bk vd vp vs lp n w (lay w L) (lay_extends w L) hB)
  obtain ⟨p, hp, h1, i, h2, h3, h4⟩ := trkAt_some h
  have htk : trkB t = true := ((hB.ok p hp).ok i t h3).1
  obtain ⟨s0, s1, s2, s3⟩ := szOk_of htk
  have HI0 := Lib.hid (inst_ok htk l0 (by omega))
  have HI1 := Lib.hid (inst_ok htk (ms := hi) (by omega) l2)
  have HA := Lib.hid (fun W => alm_around t.p W (by omega) (by omega))
  have HA2 := Lib.hid (fun W => alm_around t.q W (by omega) (by omega))
  have HX := Lib.hid (fun W => alm_positive (100 * t.p - 50) (100 * t.p + 50) W)
  have HX2 := Lib.hid (fun W => alm_positive (100 * t.q - 50) (100 * t.q + 50) W)
  rw [h1] at HPg
  unfold PgPost at HPg
  have HFn := Lib.hid h2
  have HTi := Lib.hid h3
  have HLe := Lib.hid l1
  have eI : ∀ args w, (callFunc 128 args).run Tryz.prog w = .ok (.enter 128 args) w := enters_of Tryz.func128 (by kernel_rfl) rfl
  have HE := Lib.hid eI
  have hil := (List.getElem?_eq_some_iff.1 h3).1
  obtain ⟨k, hk⟩ : ∃ k, p.ts.length = k := ⟨_, rfl⟩
  have HK := Lib.hid hk
  rw [hk] at hil
  unfold spanV gv szL szH
  dsimp only
  obtain ⟨p1, hp1⟩ : ∃ x, turnLo (ghaO t lo hi).1 (ghaO t lo hi).2 = x := ⟨_, rfl⟩
  obtain ⟨p2, hp2⟩ : ∃ x, turnHi (ghaO t lo hi).1 (ghaO t lo hi).2 = x := ⟨_, rfl⟩
  obtain ⟨p3, hp3⟩ : ∃ x, mx (decO t lo hi).1 (-5400000) = x := ⟨_, rfl⟩
  obtain ⟨p4, hp4⟩ : ∃ x, mn (decO t lo hi).2 5400000 = x := ⟨_, rfl⟩
  have HDu0 := Lib.hid (fun v W (h : Trk W v t) => inc_During_ok v t lo hi W h HI0.out HI1.out HLe.out)
  rw [hp1, hp2, hp3, hp4] at HDu0 ⊢
  clear hp1 hp2 hp3 hp4
  obtain ⟨tp, htp⟩ : ∃ tp, t.p = tp := ⟨_, rfl⟩
  obtain ⟨tq, htq⟩ : ∃ tq, t.q = tq := ⟨_, rfl⟩
  rw [htp] at HA HX ⊢
  rw [htq] at HA2 HX2 ⊢
  have HTp := Lib.hid htp
  have HTq := Lib.hid htq
  generalize mx 0 (100 * tp - 50) = u1 at *
  generalize mx 0 (100 * tp + 50) = u2 at *
  generalize mx 0 (100 * tq - 50) = u3 at *
  generalize mx 0 (100 * tq + 50) = u4 at *
  clear hB h h1 h2 h3 h4 eI hp htk hk s0 s1 s2 s3 htp htq
  refine lay_start ?_
  go_enter Tryz.func85, Tryz.ntmps85
  go_wp2_with fail
  refine (HPg.out _).mono ?_
  rintro e w' ⟨x, rfl, hD, d1, rfl⟩
  rw [lay_bw]
  obtain ⟨ls, hls, hidx⟩ := tksD_idx hD.ts s
  rw [HFn.out] at hidx
  obtain ⟨b2, o2, cap2, hxe, hcc2, hb2, -, hr2⟩ := hD.ts.open (by rw [HK.out]; omega)
  rw [HK.out] at hxe hcc2
  obtain ⟨xy, xm, xd, xa, xn, xc⟩ := x
  cases hxe
  dsimp only at hls hil hcc2
  obtain ⟨z, hzw, hzD, e0, e1, e2, e3, e4, e5⟩ := hr2 i t HTi.out
  have HDu := Lib.hid (fun L => HDu0.out _ (lay w L) ((hzD.trk hzw).lay L))
  have hzp := hzD.p
  have hzq := hzD.q
  rw [HTp.out] at hzp
  rw [HTq.out] at hzq
  have HIx := Lib.hid (fun L b' (hb : b' < (lay w L).heap.size) (hc : ∀ d, (lay w (.inr d :: L)).cell? ⟨b', 0, none⟩ = some (.string s)) => tk_IndexFunc 128 [.pointer (some ⟨b', 0, none⟩)] (fun x => nmB x.s s) _ ls (lay w L) (hls.lay L) HE.out (fun x _ d =>
    alm_during1 x s b' (lay w (.inr d :: L)) (Nat.lt_of_lt_of_le hb (bw_le _ d)) (hc d) |>.mono fun e w' ⟨h1, d2, h2⟩ => ⟨h1, _, h2.trans (bw_bw _ _ _)⟩))
  rw [hidx] at HIx
  have x0 : (0 : Int) ≤ (i : Int) := by omega
  have x1 : (i : Int) < (xn : Int) := by omega
  clear hls hidx hD hr2 hzw hzD
  obtain ⟨zs, za, zn, zc, zda, zdn, zdc, zp, zq, zr⟩ := z
  dsimp only at e0 e1 e2 e3 e4 e5 hzp hzq
  subst hzp hzq
  change Hid (∀ L, Calls Tryz.prog _ #[.agg #[.string zs, .slice za zn zc, .slice zda zdn zdc, .int .i64 zp, .int .i64 zq, .int .i64 zr], _, _] (lay w L) _) at HDu
  go_wp2_with fail
  refine (HIx.out _ _ (by simp only [lay_size, shp, posn, List.sum_cons, List.sum_nil]; omega) (fun d => by simp [go_sem])).mono ?_
  rintro e w' ⟨rfl, d2, rfl⟩
  rw [lay_bw]
  go_wp2_with (go_at_call 129; refine (HDu.out _).mono ?_; rintro e w' ⟨rfl, d3, rfl⟩)
  refine region_mixS 12 [(0, 0), (1, 0), (2, 0), (3, 0), (4, 0), (5, 0), (6, 0), (7, 0), (8, 0), (9, 0), (10, 0), (11, 2), (12, 3), (13, 2)] (by kernel_rfl) (by kernel_rfl) (by kernel_rfl) rfl ?_
  repeat (first | (refine wpMS_pure rfl (fun K hK => ?_); go_simp; refine hK _ ?_; clear hK K) | (refine wpMS_quiet rfl (fun K hK => ?_); go_simp; first | (refine hK _ ?_; clear hK K) | (apply Exists.intro; refine ⟨fun _ => ?_, hK _ ?_⟩; (first | ((with_reducible refine bq (HA.out _) ?_); exact (fun d => lay_join _ _ _ d)) | ((with_reducible refine bq (HA.out _) ?_); exact (fun d => ⟨d, rfl⟩)) | ((with_reducible refine bq (HA2.out _) ?_); exact (fun d => lay_join _ _ _ d)) | ((with_reducible refine bq (HA2.out _) ?_); exact (fun d => ⟨d, rfl⟩)) | ((with_reducible refine bq (HX.out _) ?_); exact (fun d => lay_join _ _ _ d)) | ((with_reducible refine bq (HX.out _) ?_); exact (fun d => ⟨d, rfl⟩)) | ((with_reducible refine bq (HX2.out _) ?_); exact (fun d => lay_join _ _ _ d)) | ((with_reducible refine bq (HX2.out _) ?_); exact (fun d => ⟨d, rfl⟩))); clear hK K)))
  refine wpMS_store rfl (fun K hK e1 => ?_)
  rw [lay_bw]
  go_simp
  refine hK _ _ ?_
  clear hK K
  repeat (first | (refine wpMS_pure rfl (fun K hK => ?_); go_simp; refine hK _ ?_; clear hK K) | (refine wpMS_quiet rfl (fun K hK => ?_); go_simp; first | (refine hK _ ?_; clear hK K) | (apply Exists.intro; refine ⟨fun _ => ?_, hK _ ?_⟩; (first | fail); clear hK K)))
  refine wpMS_nil ?_
  intro d9
  rw [lay_bw]
  go_wp2_with fail
  all_goals exact bodyPost_ret (v := .tuple #[(.agg #[.int .i64 (p1), .int .i64 (p2), .int .i64 (p3), .int .i64 (p4), .int .i64 (u1), .int .i64 (u2), .int .i64 (u3), .int .i64 (u4)]), .int .i64 0]) (by simp [results, Tryz.results85, go_sem]) rfl ⟨rfl, lay_ex _ _⟩
theorem gv_g0 : gv g0 = (.agg #[.int .i64 (0), .int .i64 (0), .int .i64 (0), .int .i64 (0), .int .i64 (0), .int .i64 (0), .int .i64 (0), .int .i64 (0)]) := rfl
theorem day_bd {a : Int} (h0 : -70368744177664 ≤ a) (h1 : a ≤ 70368744177664) : -1000000 ≤ a / 86400000 ∧ a / 86400000 ≤ 1000000 ∧ 0 ≤ a - a / 86400000 * 86400000 ∧ a - a / 86400000 * 86400000 ≤ 86399999 := by omega
theorem bodyR_no {lp : List PgV} {s : ByteArray} {a b : Int} (h : trkAt lp s (a / 86400000) = none) : bodyR lp s a b = (g0, 20) := by unfold bodyR; rw [h]
theorem bodyR_one {lp : List PgV} {s : ByteArray} {a b : Int} {t : TrkV} (h : trkAt lp s (a / 86400000) = some t) (e : a / 86400000 = b / 86400000) : bodyR lp s a b = (spanV t (a - a / 86400000 * 86400000) (b - a / 86400000 * 86400000), 0) := by unfold bodyR; rw [h]; exact if_pos e
theorem bodyR_no2 {lp : List PgV} {s : ByteArray} {a b : Int} {t : TrkV} (h : trkAt lp s (a / 86400000) = some t) (e : ¬ a / 86400000 = b / 86400000) (k : trkAt lp s (b / 86400000) = none) : bodyR lp s a b = (g0, 20) := by unfold bodyR; rw [h]; dsimp only; rw [if_neg e, k]
theorem bodyR_two {lp : List PgV} {s : ByteArray} {a b : Int} {t u : TrkV} (h : trkAt lp s (a / 86400000) = some t) (e : ¬ a / 86400000 = b / 86400000) (k : trkAt lp s (b / 86400000) = some u) :
    bodyR lp s a b = (joinV (spanV t (a - a / 86400000 * 86400000) 86400000) (spanV u 0 (b - b / 86400000 * 86400000)), 0) := by unfold bodyR; rw [h]; dsimp only; rw [if_neg e, k]
theorem ghaO_le {t : TrkV} (h : trkB t = true) (lo hi : Int) : (ghaO t lo hi).1 ≤ (ghaO t lo hi).2 := (validB_iff.1 (ghaO_valid (gd_of h) lo hi)).1
theorem trkAt_ok {lp : List PgV} {s : ByteArray} {n : Int} {t : TrkV} (hok : ∀ p ∈ lp, PgOk p) (h : trkAt lp s n = some t) : trkB t = true := by
  obtain ⟨p, hp, _, i, _, h3, _⟩ := trkAt_some h
  exact ((hok p hp).ok i t h3).1
theorem alm_body {P : Nat → Prop} (bk : Nat) (vd vp vs : Value) (lp : List PgV) (s : ByteArray) (a b : Int) (w : World) (hB : BkL P w bk vd vp vs lp) (ht : timB a b = true) (hw : b - a < 86400000) :
    Calls Tryz.prog 44 #[.pointer (some ⟨bk, 0, none⟩), .string s, (.agg #[.int .i64 (a), .int .i64 (b)])] w fun e w' => e = .returned (.tuple #[gv (bodyR lp s a b).1, .int .i64 (bodyR lp s a b).2]) ∧ ∃ d, w' = bw w d := by
  obtain ⟨g1, g2, g3⟩ := timB_iff.1 ht
  have HDa := Lib.hid (fun W => alm_day a W (by omega) (by omega))
  have HDb := Lib.hid (fun W => alm_day b W (by omega) (by omega))
  obtain ⟨m1, m2, m3, m4⟩ := day_bd (a := a) (by omega) (by omega)
  obtain ⟨n1, n2, n3, n4⟩ := day_bd (a := b) (by omega) (by omega)
  have HNo := Lib.hid (fun n lo hi L h => alm_during_no bk vd vp vs lp s n lo hi (lay w L) (hB.lay L) h)
  have HYes := Lib.hid (fun n lo hi t L h h0 h1 h2 => alm_during bk vd vp vs lp s n lo hi t (lay w L) (hB.lay L) h h0 h1 h2)
  have HOk := Lib.hid (fun n t h => trkAt_ok (n := n) (t := t) (s := s) hB.ok h)
  have q0 : IntKind.i64.wrap (a / 86400000 * 86400000) = a / 86400000 * 86400000 := IntWalk.i64_in _ (by omega)
  have q1 : IntKind.i64.wrap (a - a / 86400000 * 86400000) = a - a / 86400000 * 86400000 := IntWalk.i64_in _ (by omega)
  have q2 : IntKind.i64.wrap (b - a / 86400000 * 86400000) = b - a / 86400000 * 86400000 := IntWalk.i64_in _ (by omega)
  have q3 : IntKind.i64.wrap (b / 86400000 * 86400000) = b / 86400000 * 86400000 := IntWalk.i64_in _ (by omega)
  have q4 : IntKind.i64.wrap (b - b / 86400000 * 86400000) = b - b / 86400000 * 86400000 := IntWalk.i64_in _ (by omega)
  clear hB ht
  cases h1 : trkAt lp s (a / 86400000) with
  | none =>
    rw [bodyR_no h1]
    have HD1 := Lib.hid (fun lo hi L => HNo.out (a / 86400000) lo hi L h1)
    rw [gv_g0] at HD1
    clear h1 HNo HYes HOk
    generalize a / 86400000 = A at *
    generalize b / 86400000 = B at *
    by_cases e : A = B
    · subst e
      refine lay_start ?_
      go_enter Tryz.func44, Tryz.ntmps44
      go_wp2_with fail
      refine region_bw (by kernel_rfl) (by kernel_rfl) ?_
      repeat (go_big_quiet_step ((first | ((with_reducible refine bqs (HDa.out _) ?_); exact ⟨_, rfl⟩) | ((with_reducible refine bqs (HDb.out _) ?_); exact ⟨_, rfl⟩))))
      refine wpQuiet_nil ?_
      rintro w' ⟨d, rfl⟩
      rw [lay_bw]
      go_wp2_with (go_at_call 85; refine (HD1.out _ _ _).mono ?_; rintro e w' ⟨rfl, d3, rfl⟩)
      exact bodyPost_ret (v := .tuple #[(.agg #[.int .i64 (0), .int .i64 (0), .int .i64 (0), .int .i64 (0), .int .i64 (0), .int .i64 (0), .int .i64 (0), .int .i64 (0)]), .int .i64 20]) (by simp [results, Tryz.results44, go_sem]) rfl ⟨rfl, lay_ex _ _⟩
    · have t1 : (A == B) = false := beq_eq_false_iff_ne.2 e
      refine lay_start ?_
      go_enter Tryz.func44, Tryz.ntmps44
      go_wp2_with fail
      refine region_bw (by kernel_rfl) (by kernel_rfl) ?_
      repeat (go_big_quiet_step ((first | ((with_reducible refine bqs (HDa.out _) ?_); exact ⟨_, rfl⟩) | ((with_reducible refine bqs (HDb.out _) ?_); exact ⟨_, rfl⟩))))
      refine wpQuiet_nil ?_
      rintro w' ⟨d, rfl⟩
      rw [lay_bw]
      go_wp2_with (go_at_call 85; refine (HD1.out _ _ _).mono ?_; rintro e w' ⟨rfl, d3, rfl⟩)
      exact bodyPost_ret (v := .tuple #[(.agg #[.int .i64 (0), .int .i64 (0), .int .i64 (0), .int .i64 (0), .int .i64 (0), .int .i64 (0), .int .i64 (0), .int .i64 (0)]), .int .i64 20]) (by simp [results, Tryz.results44, go_sem]) rfl ⟨rfl, lay_ex _ _⟩
  | some t =>
    by_cases e : a / 86400000 = b / 86400000
    · rw [bodyR_one h1 e]
      have HD1 := Lib.hid (fun L => HYes.out (a / 86400000) (a - a / 86400000 * 86400000) (b - a / 86400000 * 86400000) t L h1 m3 (by omega) (by omega))
      generalize spanV t (a - a / 86400000 * 86400000) (b - a / 86400000 * 86400000) = X at *
      clear h1 HNo HYes HOk
      obtain ⟨x1, x2, x3, x4, x5, x6, x7, x8⟩ := X
      unfold gv at *
      dsimp only at *
      generalize a / 86400000 = A at *
      generalize b / 86400000 = B at *
      subst e
      refine lay_start ?_
      go_enter Tryz.func44, Tryz.ntmps44
      go_wp2_with fail
      refine region_bw (by kernel_rfl) (by kernel_rfl) ?_
      repeat (go_big_quiet_step ((first | ((with_reducible refine bqs (HDa.out _) ?_); exact ⟨_, rfl⟩) | ((with_reducible refine bqs (HDb.out _) ?_); exact ⟨_, rfl⟩))))
      refine wpQuiet_nil ?_
      rintro w' ⟨d, rfl⟩
      rw [lay_bw]
      go_wp2_with (go_at_call 85; refine (HD1.out _).mono ?_; rintro e w' ⟨rfl, d3, rfl⟩)
      exact bodyPost_ret (v := .tuple #[(.agg #[.int .i64 (x1), .int .i64 (x2), .int .i64 (x3), .int .i64 (x4), .int .i64 (x5), .int .i64 (x6), .int .i64 (x7), .int .i64 (x8)]), .int .i64 0]) (by simp [results, Tryz.results44, go_sem]) rfl ⟨rfl, lay_ex _ _⟩
    · have HD1 := Lib.hid (fun L => HYes.out (a / 86400000) (a - a / 86400000 * 86400000) 86400000 t L h1 m3 (by omega) (by omega))
      have t1 : (a / 86400000 == b / 86400000) = false := beq_eq_false_iff_ne.2 e
      cases h2 : trkAt lp s (b / 86400000) with
      | none =>
        rw [bodyR_no2 h1 e h2]
        have HD2 := Lib.hid (fun lo hi L => HNo.out (b / 86400000) lo hi L h2)
        rw [gv_g0] at HD2
        generalize spanV t (a - a / 86400000 * 86400000) 86400000 = X at *
        clear h1 h2 HNo HYes HOk
        obtain ⟨x1, x2, x3, x4, x5, x6, x7, x8⟩ := X
        unfold gv at *
        dsimp only at *
        generalize a / 86400000 = A at *
        generalize b / 86400000 = B at *
        refine lay_start ?_
        go_enter Tryz.func44, Tryz.ntmps44
        go_wp2_with fail
        refine region_bw (by kernel_rfl) (by kernel_rfl) ?_
        repeat (go_big_quiet_step ((first | ((with_reducible refine bqs (HDa.out _) ?_); exact ⟨_, rfl⟩) | ((with_reducible refine bqs (HDb.out _) ?_); exact ⟨_, rfl⟩))))
        refine wpQuiet_nil ?_
        rintro w' ⟨d, rfl⟩
        rw [lay_bw]
        go_wp2_with fail
        refine (HD1.out _).mono ?_
        rintro e w' ⟨rfl, d3, rfl⟩
        go_wp2_with fail
        refine (HD2.out _ _ _).mono ?_
        rintro e w' ⟨rfl, d4, rfl⟩
        go_wp2_with fail
        exact bodyPost_ret (v := .tuple #[(.agg #[.int .i64 (0), .int .i64 (0), .int .i64 (0), .int .i64 (0), .int .i64 (0), .int .i64 (0), .int .i64 (0), .int .i64 (0)]), .int .i64 20]) (by simp [results, Tryz.results44, go_sem]) rfl ⟨rfl, lay_ex _ _⟩
      | some u =>
        rw [bodyR_two h1 e h2]
        have HD2 := Lib.hid (fun L => HYes.out (b / 86400000) 0 (b - b / 86400000 * 86400000) u L h2 (by omega) (by omega) (by omega))
        have hX : TF (spanV t (a - a / 86400000 * 86400000) 86400000).a (spanV t (a - a / 86400000 * 86400000) 86400000).b := tf_turn (ghaO_le (HOk.out _ _ h1) _ _)
        have hY : TF (spanV u 0 (b - b / 86400000 * 86400000)).a (spanV u 0 (b - b / 86400000 * 86400000)).b := tf_turn (ghaO_le (HOk.out _ _ h2) _ _)
        generalize spanV t (a - a / 86400000 * 86400000) 86400000 = X at *
        generalize spanV u 0 (b - b / 86400000 * 86400000) = Y at *
        clear h1 h2 HNo HYes HOk
        obtain ⟨x1, x2, x3, x4, x5, x6, x7, x8⟩ := X
        obtain ⟨y1, y2, y3, y4, y5, y6, y7, y8⟩ := Y
        unfold joinV
        unfold gv at *
        dsimp only at *
        have HJ := Lib.hid (fun W => alm_join x1 x2 y1 y2 W hX hY)
        have HH1 := Lib.hid (fun W => alm_hull x3 x4 y3 y4 W)
        have HH2 := Lib.hid (fun W => alm_hull x5 x6 y5 y6 W)
        have HH3 := Lib.hid (fun W => alm_hull x7 x8 y7 y8 W)
        clear hX hY
        generalize turnLo (hulL x1 y1) (hulH x1 x2 y1 y2) = j1 at *
        generalize turnHi (hulL x1 y1) (hulH x1 x2 y1 y2) = j2 at *
        generalize mn x3 y3 = j3 at *
        generalize mx x4 y4 = j4 at *
        generalize mn x5 y5 = j5 at *
        generalize mx x6 y6 = j6 at *
        generalize mn x7 y7 = j7 at *
        generalize mx x8 y8 = j8 at *
        generalize a / 86400000 = A at *
        generalize b / 86400000 = B at *
        refine lay_start ?_
        go_enter Tryz.func44, Tryz.ntmps44
        go_wp2_with fail
        refine region_bw (by kernel_rfl) (by kernel_rfl) ?_
        repeat (go_big_quiet_step ((first | ((with_reducible refine bqs (HDa.out _) ?_); exact ⟨_, rfl⟩) | ((with_reducible refine bqs (HDb.out _) ?_); exact ⟨_, rfl⟩))))
        refine wpQuiet_nil ?_
        rintro w' ⟨d, rfl⟩
        rw [lay_bw]
        go_wp2_with fail
        refine (HD1.out _).mono ?_
        rintro e w' ⟨rfl, d3, rfl⟩
        go_wp2_with fail
        refine (HD2.out _).mono ?_
        rintro e w' ⟨rfl, d4, rfl⟩
        go_wp2_with fail
        refine (HJ.out _).mono ?_
        rintro e w' ⟨rfl, d5, rfl⟩
        go_wp2_with fail
        refine region_mixS 18 [(0, 0), (1, 0), (2, 0), (3, 0), (4, 0), (5, 0), (6, 0), (7, 0), (8, 0), (9, 0), (10, 0), (11, 0), (12, 0), (13, 0), (14, 0), (15, 0), (16, 0), (17, 2), (18, 3), (19, 2)] (by kernel_rfl) (by kernel_rfl) (by kernel_rfl) rfl ?_
        repeat (first | (refine wpMS_pure rfl (fun K hK => ?_); go_simp; refine hK _ ?_; clear hK K) | (refine wpMS_quiet rfl (fun K hK => ?_); go_simp; first | (refine hK _ ?_; clear hK K) | (apply Exists.intro; refine ⟨fun _ => ?_, hK _ ?_⟩; (first | ((with_reducible refine bq (HH1.out _) ?_); exact (fun d => lay_join _ _ _ d)) | ((with_reducible refine bq (HH1.out _) ?_); exact (fun d => ⟨d, rfl⟩)) | ((with_reducible refine bq (HH2.out _) ?_); exact (fun d => lay_join _ _ _ d)) | ((with_reducible refine bq (HH2.out _) ?_); exact (fun d => ⟨d, rfl⟩)) | ((with_reducible refine bq (HH3.out _) ?_); exact (fun d => lay_join _ _ _ d)) | ((with_reducible refine bq (HH3.out _) ?_); exact (fun d => ⟨d, rfl⟩))); clear hK K)))
        refine wpMS_store rfl (fun K hK e1 => ?_)
        rw [lay_bw]
        go_simp
        refine hK _ _ ?_
        clear hK K
        repeat (first | (refine wpMS_pure rfl (fun K hK => ?_); go_simp; refine hK _ ?_; clear hK K) | (refine wpMS_quiet rfl (fun K hK => ?_); go_simp; first | (refine hK _ ?_; clear hK K) | (apply Exists.intro; refine ⟨fun _ => ?_, hK _ ?_⟩; (first | fail); clear hK K)))
        refine wpMS_nil ?_
        intro d9
        rw [lay_bw]
        go_wp2_with fail
        all_goals exact bodyPost_ret (v := .tuple #[(.agg #[.int .i64 (j1), .int .i64 (j2), .int .i64 (j3), .int .i64 (j4), .int .i64 (j5), .int .i64 (j6), .int .i64 (j7), .int .i64 (j8)]), .int .i64 0]) (by simp [results, Tryz.results44, go_sem]) rfl ⟨rfl, lay_ex _ _⟩
end Go.Proofs.YtjfpgpipbooilaaGreat

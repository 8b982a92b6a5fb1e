/- Contracts and plain laws, several texts in one: Wh7; Mdf; Nw3 -/
import Derived.Test.YthjfadfebhjhbaaGreatProg
import Derived.WalkKit
import Derived.WalkSpells
import Derived.WalkLawsBesides
import Derived.Lib.Hide
import Derived.BigQuiet
import Derived.Test.YthjfadfebhjhbaaGreatQAA
import Derived.Test.YthjfadfebhjhbaaGreatQAB
import Derived.Test.YthjfadfebhjhbaaGreatQAM
import Derived.Test.YthjfadfebhjhbaaGreatQAO
import Derived.Test.YthjfadfebhjhbaaGreatQAV
import Derived.Test.YthjfadfebhjhbaaGreatQAW
/- The reference's Where at tracks, and in full. -/
namespace Go.Proofs.YthjfadfebhjhbaaGreat
open Go.RowKit Go.Shelf

set_option maxHeartbeats 4000000 in
set_option maxRecDepth 100000 in
theorem ref17_Where_body {P : Nat → Prop} (vp vs : Value) (lp : List PgV) (ls : List StarV) (s : ByteArray) (a b : Int) (w : World) (h : RfL P w vp vs lp ls) (ht : timB a b = true) (hw : b - a < 86400000) (hs : isA s = false) (hi : fndS ls s = -1) (hk : Lib.containsS (tkL lp) s = true) :
    Calls Tryz.prog 30 #[.agg #[vp, vs], .string s, (.agg #[.int .i64 (a), .int .i64 (b)])] w fun e w' => e = .returned (.tuple #[gv (bodyR lp s a b).1, .int .i64 (bodyR lp s a b).2]) ∧ ∃ d, w' = bw w d := by
  obtain ⟨g1, g2, g3⟩ := timB_iff.1 ht
  have HV := Lib.hid (fun W => ref10_Valid a b W)
  rw [ht] at HV
  have HBd := h.bodies
  have HHas := has_known lp ls s
  rw [known_body hk] at HHas
  have HF := Lib.hid (fun L => ref16_Find vs ls s (lay w L) (h.sts.lay L))
  unfold IdxPost at HF
  rw [hi] at HF
  have z3 : decide ((86400000 : Int) ≤ wrap64 (b - a)) = false := decide_eq_false (by unfold wrap64; omega)
  have hs2 := isA_list hs
  have HDa := Lib.hid (fun W => ref17_Day a W (by omega) (by omega))
  have HDb := Lib.hid (fun W => ref17_Day b W (by omega) (by omega))
  obtain ⟨m1, m2, m3, m4⟩ := day_bd (a := a) (by omega) (by omega)
  obtain ⟨n1, n2, n3, n4⟩ := day_bd (a := b) (by omega) (by omega)
  have HTr := Lib.hid (fun n L => ref17_track vp vs lp s n w (lay w L) (lay_extends w L) h.pgs h.ok)
  have HOk := Lib.hid (fun n t hh => trkAt_ok (n := n) (t := t) (s := s) h.ok hh)
  have HSp := Lib.hid (fun v t lo hi L (hv : Trk w v t) ht h0 h1 h2 => ref17_span v t lo hi (lay w L) (hv.lay L) ht h0 h1 h2)
  have q0 : IntKind.i64.wrap (a / 86400000 * 86400000) = a / 86400000 * 86400000 := IntWalk.i64_in _ (by omega)
  have q1 : IntKind.i64.wrap (a - a / 86400000 * 86400000) = a - a / 86400000 * 86400000 := IntWalk.i64_in _ (by omega)
  have q2 : IntKind.i64.wrap (b - a / 86400000 * 86400000) = b - a / 86400000 * 86400000 := IntWalk.i64_in _ (by omega)
  have q3 : IntKind.i64.wrap (b / 86400000 * 86400000) = b / 86400000 * 86400000 := IntWalk.i64_in _ (by omega)
  have q4 : IntKind.i64.wrap (b - b / 86400000 * 86400000) = b - b / 86400000 * 86400000 := IntWalk.i64_in _ (by omega)
  obtain ⟨sa, sc, rfl⟩ := h.sts.form
  clear h ht hs hi hk
  generalize [ariesS] ++ tkL lp ++ ls.map StarV.s = T at *
  generalize ls.length = m at *
  cases h1 : trkAt lp s (a / 86400000) with
  | none =>
    rw [bodyR_no h1]
    have HT1 := Lib.hid (fun L => HTr.out (a / 86400000) L)
    rw [h1] at HT1
    unfold TkPost at HT1
    clear h1 HTr HSp HOk
    generalize a / 86400000 = A at *
    generalize b / 86400000 = B at *
    refine lay_start ?_
    go_enter Tryz.func30, Tryz.ntmps30
    go_wp2_with (first | (go_at_call 12; refine (HV.out _).mono ?_; rintro e w' ⟨rfl, dV, rfl⟩))
    refine (HBd.out _).mono ?_
    rintro e w' ⟨vb, dB, rfl, rfl, hO⟩
    rw [lay_bw] at hO ⊢
    obtain ⟨ba, bc, rfl⟩ := hO.form
    have HO := Lib.hid (hO.sl strOk)
    clear hO
    go_wp2_with fail
    refine (HHas.out _ _ HO.out).mono ?_
    rintro e w' ⟨rfl, dH, rfl⟩
    rw [lay_bw]
    go_wp2_with (go_at_call 62; refine (HF.out _).mono ?_; rintro e w' ⟨rfl, dI, rfl⟩)
    refine region_bw (by kernel_rfl) (by kernel_rfl) ?_
    repeat (go_big_quiet_step ((first | ((with_reducible refine bqs (HDa.out _) ?_); exact ⟨_, rfl⟩) | ((with_reducible refine bqs (HDb.out _) ?_); exact ⟨_, rfl⟩))))
    refine wpQuiet_nil ?_
    rintro w' ⟨d, rfl⟩
    rw [lay_bw]
    go_wp2_with (go_at_call 68; refine (HT1.out _).mono ?_; rintro e w' ⟨rfl, dT, rfl⟩)
    exact bodyPost_ret (v := .tuple #[(.agg #[.int .i64 (0), .int .i64 (0), .int .i64 (0), .int .i64 (0), .int .i64 (0), .int .i64 (0), .int .i64 (0), .int .i64 (0)]), .int .i64 20]) (by simp [results, Tryz.results30, go_sem]) rfl ⟨rfl, lay_ex _ _⟩
  | some t =>
    have hO1 := HOk.out _ _ h1
    have HT1 := Lib.hid (fun L => HTr.out (a / 86400000) L)
    rw [h1] at HT1
    unfold TkPost at HT1
    by_cases e : a / 86400000 = b / 86400000
    · rw [bodyR_one h1 e]
      have HS1 := Lib.hid (fun v L hv => HSp.out v t (a - a / 86400000 * 86400000) (b - a / 86400000 * 86400000) L hv hO1 m3 (by omega) (by omega))
      obtain ⟨X, hX⟩ : ∃ X, spanV t (a - a / 86400000 * 86400000) (b - a / 86400000 * 86400000) = X := ⟨_, rfl⟩
      rw [hX] at HS1 ⊢
      clear h1 HTr HSp HOk hO1 hX
      obtain ⟨x1, x2, x3, x4, x5, x6, x7, x8⟩ := X
      unfold gv at *
      dsimp only at *
      generalize a / 86400000 = A at *
      generalize b / 86400000 = B at *
      subst e
      refine lay_start ?_
      go_enter Tryz.func30, Tryz.ntmps30
      go_wp2_with (first | (go_at_call 12; refine (HV.out _).mono ?_; rintro e w' ⟨rfl, dV, rfl⟩))
      refine (HBd.out _).mono ?_
      rintro e w' ⟨vb, dB, rfl, rfl, hO⟩
      rw [lay_bw] at hO ⊢
      obtain ⟨ba, bc, rfl⟩ := hO.form
      have HO := Lib.hid (hO.sl strOk)
      clear hO
      go_wp2_with fail
      refine (HHas.out _ _ HO.out).mono ?_
      rintro e w' ⟨rfl, dH, rfl⟩
      rw [lay_bw]
      go_wp2_with (go_at_call 62; refine (HF.out _).mono ?_; rintro e w' ⟨rfl, dI, rfl⟩)
      refine region_bw (by kernel_rfl) (by kernel_rfl) ?_
      repeat (go_big_quiet_step ((first | ((with_reducible refine bqs (HDa.out _) ?_); exact ⟨_, rfl⟩) | ((with_reducible refine bqs (HDb.out _) ?_); exact ⟨_, rfl⟩))))
      refine wpQuiet_nil ?_
      rintro w' ⟨d, rfl⟩
      rw [lay_bw]
      go_wp2_with fail
      refine (HT1.out _).mono ?_
      rintro e w' ⟨x, rfl, hD, hx, dT, rfl⟩
      have HK := Lib.hid (fun L => HS1.out _ L (hD.trk hx))
      clear hD hx
      obtain ⟨zs, za, zn, zc, zda, zdn, zdc, zp, zq, zr⟩ := x
      change Hid (∀ L, Calls Tryz.prog _ #[.agg #[.string zs, .slice za zn zc, .slice zda zdn zdc, .int .i64 zp, .int .i64 zq, .int .i64 zr], _, _] (lay w L) _) at HK
      dsimp only
      go_wp2_with (go_at_call 69; refine (HK.out _).mono ?_; rintro e w' ⟨rfl, dS, rfl⟩)
      exact bodyPost_ret (v := .tuple #[(.agg #[.int .i64 (x1), .int .i64 (x2), .int .i64 (x3), .int .i64 (x4), .int .i64 (x5), .int .i64 (x6), .int .i64 (x7), .int .i64 (x8)]), .int .i64 0]) (by simp [results, Tryz.results30, go_sem]) rfl ⟨rfl, lay_ex _ _⟩
    · have HT2 := Lib.hid (fun L => HTr.out (b / 86400000) L)
      cases h2 : trkAt lp s (b / 86400000) with
      | none =>
        rw [bodyR_no2 h1 e h2]
        rw [h2] at HT2
        unfold TkPost at HT2
        clear h1 h2 HTr HSp HOk hO1
        generalize a / 86400000 = A at *
        generalize b / 86400000 = B at *
        have t1 : (A == B) = false := beq_eq_false_iff_ne.2 e
        refine lay_start ?_
        go_enter Tryz.func30, Tryz.ntmps30
        go_wp2_with (first | (go_at_call 12; refine (HV.out _).mono ?_; rintro e w' ⟨rfl, dV, rfl⟩))
        refine (HBd.out _).mono ?_
        rintro e w' ⟨vb, dB, rfl, rfl, hO⟩
        rw [lay_bw] at hO ⊢
        obtain ⟨ba, bc, rfl⟩ := hO.form
        have HO := Lib.hid (hO.sl strOk)
        clear hO
        go_wp2_with fail
        refine (HHas.out _ _ HO.out).mono ?_
        rintro e w' ⟨rfl, dH, rfl⟩
        rw [lay_bw]
        go_wp2_with (go_at_call 62; refine (HF.out _).mono ?_; rintro e w' ⟨rfl, dI, rfl⟩)
        refine region_bw (by kernel_rfl) (by kernel_rfl) ?_
        repeat (go_big_quiet_step ((first | ((with_reducible refine bqs (HDa.out _) ?_); exact ⟨_, rfl⟩) | ((with_reducible refine bqs (HDb.out _) ?_); exact ⟨_, rfl⟩))))
        refine wpQuiet_nil ?_
        rintro w' ⟨d, rfl⟩
        rw [lay_bw]
        go_wp2_with fail
        refine (HT1.out _).mono ?_
        rintro e w' ⟨x, rfl, -, -, dT, rfl⟩
        obtain ⟨zs, za, zn, zc, zda, zdn, zdc, zp, zq, zr⟩ := x
        dsimp only
        go_wp2_with fail
        refine (HT2.out _).mono ?_
        rintro e w' ⟨rfl, dU, rfl⟩
        go_wp2_with fail
        exact bodyPost_ret (v := .tuple #[(.agg #[.int .i64 (0), .int .i64 (0), .int .i64 (0), .int .i64 (0), .int .i64 (0), .int .i64 (0), .int .i64 (0), .int .i64 (0)]), .int .i64 20]) (by simp [results, Tryz.results30, go_sem]) rfl ⟨rfl, lay_ex _ _⟩
      | some u =>
        have hO2 := HOk.out _ _ h2
        rw [bodyR_two h1 e h2]
        rw [h2] at HT2
        unfold TkPost at HT2
        have HS1 := Lib.hid (fun v L hv => HSp.out v t (a - a / 86400000 * 86400000) 86400000 L hv hO1 m3 (by omega) (by omega))
        have HS2 := Lib.hid (fun v L hv => HSp.out v u 0 (b - b / 86400000 * 86400000) L hv hO2 (by omega) (by omega) (by omega))
        have hX : TF (spanV t (a - a / 86400000 * 86400000) 86400000).a (spanV t (a - a / 86400000 * 86400000) 86400000).b := tf_turn (ghaO_le hO1 _ _)
        have hY : TF (spanV u 0 (b - b / 86400000 * 86400000)).a (spanV u 0 (b - b / 86400000 * 86400000)).b := tf_turn (ghaO_le hO2 _ _)
        obtain ⟨X, hXe⟩ : ∃ X, spanV t (a - a / 86400000 * 86400000) 86400000 = X := ⟨_, rfl⟩
        obtain ⟨Y, hYe⟩ : ∃ Y, spanV u 0 (b - b / 86400000 * 86400000) = Y := ⟨_, rfl⟩
        rw [hXe] at HS1 hX ⊢
        rw [hYe] at HS2 hY ⊢
        clear h1 h2 HTr HSp HOk hO1 hO2 hXe hYe
        obtain ⟨x1, x2, x3, x4, x5, x6, x7, x8⟩ := X
        obtain ⟨y1, y2, y3, y4, y5, y6, y7, y8⟩ := Y
        unfold joinV
        unfold gv at *
        dsimp only at *
        have HJ := Lib.hid (fun W => ref17_Join x1 x2 y1 y2 W hX hY)
        have HH1 := Lib.hid (fun W => ref05_Hull x3 x4 y3 y4 W)
        have HH2 := Lib.hid (fun W => ref05_Hull x5 x6 y5 y6 W)
        have HH3 := Lib.hid (fun W => ref05_Hull x7 x8 y7 y8 W)
        clear hX hY
        generalize turnLo (hulL x1 y1) (hulH x1 x2 y1 y2) = j1 at *
        generalize turnHi (hulL x1 y1) (hulH x1 x2 y1 y2) = j2 at *
        generalize mn x3 y3 = j3 at *
        generalize mx x4 y4 = j4 at *
        generalize mn x5 y5 = j5 at *
        generalize mx x6 y6 = j6 at *
        generalize mn x7 y7 = j7 at *
        generalize mx x8 y8 = j8 at *
        generalize a / 86400000 = A at *
        generalize b / 86400000 = B at *
        have t1 : (A == B) = false := beq_eq_false_iff_ne.2 e
        refine lay_start ?_
        go_enter Tryz.func30, Tryz.ntmps30
        go_wp2_with (first | (go_at_call 12; refine (HV.out _).mono ?_; rintro e w' ⟨rfl, dV, rfl⟩))
        refine (HBd.out _).mono ?_
        rintro e w' ⟨vb, dB, rfl, rfl, hO⟩
        rw [lay_bw] at hO ⊢
        obtain ⟨ba, bc, rfl⟩ := hO.form
        have HO := Lib.hid (hO.sl strOk)
        clear hO
        go_wp2_with fail
        refine (HHas.out _ _ HO.out).mono ?_
        rintro e w' ⟨rfl, dH, rfl⟩
        rw [lay_bw]
        go_wp2_with (go_at_call 62; refine (HF.out _).mono ?_; rintro e w' ⟨rfl, dI, rfl⟩)
        refine region_bw (by kernel_rfl) (by kernel_rfl) ?_
        repeat (go_big_quiet_step ((first | ((with_reducible refine bqs (HDa.out _) ?_); exact ⟨_, rfl⟩) | ((with_reducible refine bqs (HDb.out _) ?_); exact ⟨_, rfl⟩))))
        refine wpQuiet_nil ?_
        rintro w' ⟨d, rfl⟩
        rw [lay_bw]
        go_wp2_with fail
        refine (HT1.out _).mono ?_
        rintro e w' ⟨x, rfl, hD, hx, dT, rfl⟩
        have HK := Lib.hid (fun L => HS1.out _ L (hD.trk hx))
        clear hD hx
        obtain ⟨zs, za, zn, zc, zda, zdn, zdc, zp, zq, zr⟩ := x
        change Hid (∀ L, Calls Tryz.prog _ #[.agg #[.string zs, .slice za zn zc, .slice zda zdn zdc, .int .i64 zp, .int .i64 zq, .int .i64 zr], _, _] (lay w L) _) at HK
        dsimp only
        go_wp2_with fail
        refine (HT2.out _).mono ?_
        rintro e w' ⟨x, rfl, hD, hx, dU, rfl⟩
        have HK2 := Lib.hid (fun L => HS2.out _ L (hD.trk hx))
        clear hD hx
        obtain ⟨us, ua, un, uc, uda, udn, udc, up, uq, ur⟩ := x
        change Hid (∀ L, Calls Tryz.prog _ #[.agg #[.string us, .slice ua un uc, .slice uda udn udc, .int .i64 up, .int .i64 uq, .int .i64 ur], _, _] (lay w L) _) at HK2
        dsimp only
        go_wp2_with (first | (go_at_call 69; (with_reducible refine (HK.out _).mono ?_); rintro e w' ⟨rfl, dS, rfl⟩) | (go_at_call 69; (with_reducible refine (HK2.out _).mono ?_); rintro e w' ⟨rfl, dR, rfl⟩))
        refine region_mixS 21 [(0, 0), (1, 0), (2, 0), (3, 0), (4, 0), (5, 0), (6, 0), (7, 0), (8, 0), (9, 0), (10, 0), (11, 0), (12, 0), (13, 0), (14, 0), (15, 0), (16, 0), (17, 0), (18, 0), (19, 0), (20, 0), (21, 3), (22, 2)] (by kernel_rfl) (by kernel_rfl) (by kernel_rfl) rfl ?_
        repeat (first | (refine wpMS_pure rfl (fun K hK => ?_); go_simp; refine hK _ ?_; clear hK K) | (refine wpMS_quiet rfl (fun K hK => ?_); go_simp; first | (refine hK _ ?_; clear hK K) | (apply Exists.intro; refine ⟨fun _ => ?_, hK _ ?_⟩; (first | ((with_reducible refine bq (HJ.out _) ?_); exact (fun d => lay_join _ _ _ d)) | ((with_reducible refine bq (HJ.out _) ?_); exact (fun d => ⟨d, rfl⟩)) | ((with_reducible refine bq (HH1.out _) ?_); exact (fun d => lay_join _ _ _ d)) | ((with_reducible refine bq (HH1.out _) ?_); exact (fun d => ⟨d, rfl⟩)) | ((with_reducible refine bq (HH2.out _) ?_); exact (fun d => lay_join _ _ _ d)) | ((with_reducible refine bq (HH2.out _) ?_); exact (fun d => ⟨d, rfl⟩)) | ((with_reducible refine bq (HH3.out _) ?_); exact (fun d => lay_join _ _ _ d)) | ((with_reducible refine bq (HH3.out _) ?_); exact (fun d => ⟨d, rfl⟩))); clear hK K)))
        refine wpMS_store rfl (fun K hK e1 => ?_)
        rw [lay_bw]
        go_simp
        refine hK _ _ ?_
        clear hK K
        repeat (first | (refine wpMS_pure rfl (fun K hK => ?_); go_simp; refine hK _ ?_; clear hK K) | (refine wpMS_quiet rfl (fun K hK => ?_); go_simp; first | (refine hK _ ?_; clear hK K) | (apply Exists.intro; refine ⟨fun _ => ?_, hK _ ?_⟩; (first | fail); clear hK K)))
        refine wpMS_nil ?_
        intro d9
        rw [lay_bw]
        go_wp2_with fail
        exact bodyPost_ret (v := .tuple #[(.agg #[.int .i64 (j1), .int .i64 (j2), .int .i64 (j3), .int .i64 (j4), .int .i64 (j5), .int .i64 (j6), .int .i64 (j7), .int .i64 (j8)]), .int .i64 0]) (by simp [results, Tryz.results30, go_sem]) rfl ⟨rfl, lay_ex _ _⟩
theorem ref17_Where {P : Nat → Prop} (vp vs : Value) (lp : List PgV) (ls : List StarV) (s : ByteArray) (a b : Int) (w : World) (h : RfL P w vp vs lp ls) :
    Calls Tryz.prog 30 #[.agg #[vp, vs], .string s, (.agg #[.int .i64 (a), .int .i64 (b)])] w fun e w' => e = .returned (.tuple #[gv (whR lp ls s a b).1, .int .i64 (whR lp ls s a b).2]) ∧ ∃ d, w' = bw w d := by
  cases whW lp ls s a b with
  | bad k =>
    have := ref17_Where_early vp vs lp ls s a b w h (.inl k)
    rw [if_pos k] at this
    rw [whR_bad k]; exact this
  | name t k =>
    have := ref17_Where_early vp vs lp ls s a b w h (.inr (.inl k))
    rw [if_neg (by rw [t]; decide), if_pos k] at this
    rw [whR_name t k]; exact this
  | wide t k d =>
    have := ref17_Where_early vp vs lp ls s a b w h (.inr (.inr d))
    rw [if_neg (by rw [t]; decide), if_neg (by rw [k]; decide)] at this
    rw [whR_wide t k d]; exact this
  | aries t d k => rw [whR_aries t d k]; exact ref17_Where_aries vp vs lp ls s a b w h t d k
  | star i x t d k f g e => rw [whR_star t d k f e]; exact ref17_Where_star vp vs lp ls s i x a b w h t d k f g
  | body t d k f g c => rw [whR_body t d k g c]; exact ref17_Where_body vp vs lp ls s a b w h t d k f c
end Go.Proofs.YthjfadfebhjhbaaGreat
/- almanac.New by its error number; the law's made in full; a book that is made. -/
namespace Go.Proofs.YthjfadfebhjhbaaGreat
open Go.RowKit Go.Shelf

structure NewOk (lp : List PgV) (ls : List StarV) : Prop where
  few : lp.length ≤ 40
  ok : ∀ p ∈ lp, PgOk p
  cat : catB ls = true
  ord : OrdK lp lp.length
  tw : twB lp ls = false
theorem newE_0 {lp : List PgV} {ls : List StarV} (h : newE lp ls = 0) : NewOk lp ls := by
  unfold newE at h
  split at h
  · cases h
  · split at h
    · cases h
    · rename_i h1 h2
      split at h
      · cases h
      · rename_i h3
        split at h
        · cases h
        · rename_i h4
          rw [not_or] at h2
          have hb : badP lp = false := by cases e : badP lp; rfl; exact absurd e h2.1
          exact ⟨by omega, bad_all hb, by cases e : catB ls; exact absurd e h2.2; rfl, by simpa using h3, by cases e : twB lp ls; rfl; exact absurd e h4⟩
theorem alm_New_no {P : Nat → Prop} (vp vs : Value) (lp : List PgV) (ls : List StarV) (w : World) (hp : PgsD P w vp lp) (hP : ∀ b, P b → b < w.heap.size) (hv : SlG stR w vs ls) (h : newE lp ls ≠ 0) :
    Calls Tryz.prog 41 #[vp, vs] w fun e w' => e = .returned (.tuple #[.pointer none, .int .i64 (newE lp ls)]) ∧ ∃ d, w' = bw w d := by
  by_cases h1 : 40 < lp.length
  · rw [← newE_full (ls := ls) h1]; exact alm_New_full vp vs lp w hp h1
  · by_cases h2 : badP lp = true ∨ catB ls = false
    · rw [← newE_arg (by omega) h2]; exact alm_New_arg vp vs lp ls w hp hv (by omega) h2
    · rw [not_or] at h2
      have hb : badP lp = false := by cases e : badP lp; rfl; exact absurd e h2.1
      have hc : catB ls = true := by cases e : catB ls; exact absurd e h2.2; rfl
      refine (alm_New_main vp vs lp ls w hp hP hv (by omega) hb hc).mono fun e w' hh => ?_
      rcases hh with ⟨o, t, _⟩ | ⟨o, t, k⟩ | ⟨o, k⟩
      · exact absurd (newE_ok (by omega) hb hc o t).symm h
      · rw [← newE_tw (by omega) hb hc o t]; exact k
      · rw [← newE_ord (by omega) hb hc o]; exact k
theorem alm_New_yes {P : Nat → Prop} (vp vs : Value) (lp : List PgV) (ls : List StarV) (w : World) (hp : PgsD P w vp lp) (hP : ∀ b, P b → b < w.heap.size) (hv : SlG stR w vs ls) (h : newE lp ls = 0) :
    Calls Tryz.prog 41 #[vp, vs] w (NewPost w lp ls) := by
  have h1 : ¬ 40 < lp.length := fun h1 => by have := newE_full (ls := ls) h1; omega
  have h2 : ¬ (badP lp = true ∨ catB ls = false) := fun h2 => by have := newE_arg (by omega) h2; omega
  rw [not_or] at h2
  have hb : badP lp = false := by cases e : badP lp; rfl; exact absurd e h2.1
  have hc : catB ls = true := by cases e : catB ls; exact absurd e h2.2; rfl
  refine (alm_New_main vp vs lp ls w hp hP hv (by omega) hb hc).mono fun e w' hh => ?_
  rcases hh with ⟨o, t, k⟩ | ⟨o, t, k⟩ | ⟨o, k⟩
  · exact k
  · have := newE_tw (by omega) hb hc o t; omega
  · have := newE_ord (by omega) hb hc o; omega
theorem BkA.bw {w : World} {bk : Nat} {lp : List PgV} {ls : List StarV} {W : World} (h : BkA w bk lp ls W) (L : List (Obj ⊕ Ext)) : BkA w bk lp ls (lay W L) := by
  obtain ⟨h0, vd, vp, vs, h1, h2, h3, h4, h5, h6⟩ := h
  exact ⟨h0, vd, vp, vs, h1.lay L, h2.lay L, h3, h4.lay L, h5.lay L, h6⟩
theorem BkA.open {w : World} {bk : Nat} {lp : List PgV} {ls : List StarV} {W : World} (h : BkA w bk lp ls W) (k : NewOk lp ls) : ∃ vd vp vs, BkL (fun b => w.heap.size ≤ b ∧ b ≠ bk) W bk vd vp vs lp ∧ SlG stR W vs ls := by
  obtain ⟨h0, vd, vp, vs, h1, h2, h3, h4, h5, h6⟩ := h
  exact ⟨vd, vp, vs, ⟨h1, h2, h4, k.ord, k.ok, k.few⟩, h5⟩
theorem made_Where {w : World} {bk : Nat} {lp : List PgV} {ls : List StarV} {W : World} (h : BkA w bk lp ls W) (k : NewOk lp ls) : Hid (∀ s a b L, Calls Tryz.prog 54 #[.pointer (some ⟨bk, 0, none⟩), .string s, (.agg #[.int .i64 (a), .int .i64 (b)])] (lay W L) fun e w' => e = .returned (.tuple #[gv (whR lp ls s a b).1, .int .i64 (whR lp ls s a b).2]) ∧ ∃ d, w' = bw (lay W L) d) := by
  obtain ⟨vd, vp, vs, h1, h2⟩ := h.open k
  exact Lib.hid (fun s a b L => alm_Where bk vd vp vs lp ls s a b (lay W L) (h1.lay L) (h2.lay L) k.cat)
end Go.Proofs.YthjfadfebhjhbaaGreat
/- The example of chapter 17 (awake); right. -/
namespace Go.Proofs.YthjfadfebhjhbaaGreat
open Go.RowKit Go.Shelf

def vegaS : ByteArray := ⟨#[86, 101, 103, 97]⟩
theorem vega_name : nameB vegaS = true := by
  refine nameB_iff.2 ⟨by decide, by decide, fun i hi => ?_, by decide⟩
  have h4 : i < 4 := hi
  match i, h4 with
  | 0, _ => decide
  | 1, _ => decide
  | 2, _ => decide
  | 3, _ => decide
theorem vega_list : vegaS.toList = [86, 101, 103, 97] := by rw [ByteArray.toList_eq]; rfl
end Go.Proofs.YthjfadfebhjhbaaGreat

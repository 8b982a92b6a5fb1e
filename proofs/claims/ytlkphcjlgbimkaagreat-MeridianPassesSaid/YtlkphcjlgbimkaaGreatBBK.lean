/- Contracts and plain laws, several texts in one: Pa4 -/
import Derived.Test.YtlkphcjlgbimkaaGreatProg
import Derived.WalkKit
import Derived.WalkSpells
import Derived.WalkLawsBesides
import Derived.Lib.Hide
import Derived.BigQuiet
import Derived.Test.YtlkphcjlgbimkaaGreatBAA
import Derived.Test.YtlkphcjlgbimkaaGreatBAB
import Derived.Test.YtlkphcjlgbimkaaGreatBBJ
/- The law MeridianPasses. -/
namespace Go.Proofs.YtlkphcjlgbimkaaGreat
open Go.RowKit Go.Shelf

theorem lon_valid {p q : Int} (h : TF p q) : validB (lonL p q) (lonH p q) = true := by
  obtain ⟨h0, h1, h2, h3⟩ := h
  have hb := sgn_bd (-q)
  unfold lonL lonH
  rw [validB_iff]
  split <;> omega
theorem lon_has {p q x : Int} (h : Dia 0 0 (p + x % 21600000) (q + x % 21600000)) : agrB (lonL p q) (lonH p q) x x = true := by
  unfold lonL lonH
  by_cases hw : 21600000 ≤ q - p
  · rw [if_pos hw, if_pos hw]
    unfold agrB
    rw [Bool.or_eq_true, decide_eq_true_eq, decide_eq_true_eq]
    left; omega
  · rw [if_neg hw, if_neg hw]
    exact lon_agr h (by omega)
/-- What the law's walk wants of a transit. -/
structure PassOk (lp : List PgV) (ls : List StarV) (s : ByteArray) (x f A B : Int) (K : Nat) : Prop where
  k1 : K ≤ 25
  a0 : f + (K : Int) * 3600000 ≤ A
  a1 : A < f + (K : Int) * 3600000 + 7200000
  ab : A ≤ B
  b1 : B ≤ f + 97200000
  w : B - A ≤ 7200000
  f0 : -70368744177664 ≤ f
  f1 : f ≤ 70368646977664
  e : lhaE lp ls s A B x x = 0
  g : agrB (lhaL lp ls s A B x x) (lhaH lp ls s A B x x) 0 0 = true
  v : validB (lhaL lp ls s A B x x) (lhaH lp ls s A B x x) = true
  wh : (whR lp ls s A B).2 = 0
  lv : validB (lonL (whR lp ls s A B).1.a (whR lp ls s A B).1.b) (lonH (whR lp ls s A B).1.a (whR lp ls s A B).1.b) = true
  la : agrB (lonL (whR lp ls s A B).1.a (whR lp ls s A B).1.b) (lonH (whR lp ls s A B).1.a (whR lp ls s A B).1.b) x x = true
  hr : ∀ m : Nat, m ≤ K → lhaE lp ls s (f + (m : Int) * 3600000) (f + (m : Int) * 3600000 + 3600000) x x = 0 ∧ validB (lhaL lp ls s (f + (m : Int) * 3600000) (f + (m : Int) * 3600000 + 3600000) x x) (lhaH lp ls s (f + (m : Int) * 3600000) (f + (m : Int) * 3600000 + 3600000) x x) = true ∧
    (m < K → agrB (lhaL lp ls s (f + (m : Int) * 3600000) (f + (m : Int) * 3600000 + 3600000) x x) (lhaH lp ls s (f + (m : Int) * 3600000) (f + (m : Int) * 3600000 + 3600000) x x) 0 0 = false)
theorem agT_eq {lp : List PgV} {ls : List StarV} {s : ByteArray} {x a b : Int} (h : lhaE lp ls s a b x x = 0) : agT lp ls s x a b = agrB (lhaL lp ls s a b x x) (lhaH lp ls s a b x x) 0 0 := by unfold agT; rw [if_pos h]
theorem lha_valid {lp : List PgV} {ls : List StarV} {s : ByteArray} {x a b : Int} (hok : ∀ p ∈ lp, PgOk p) (h : lhaE lp ls s a b x x = 0) : validB (lhaL lp ls s a b x x) (lhaH lp ls s a b x x) = true := by
  obtain ⟨e1, e2, e3⟩ := lha_form hok h
  rw [e1, e2]
  exact turn_valid (by omega)
theorem pass_ok {lp : List PgV} {ls : List StarV} {s : ByteArray} {x f A B : Int} {K i j : Nat} (hok : ∀ p ∈ lp, PgOk p) (h : TrOk (agT lp ls s x) (fun a b => lhaE lp ls s a b x x) f K i j)
    (hA : A = f + (K : Int) * 3600000 + (i : Int) * 3600000 / 4096) (hB : B = f + (K : Int) * 3600000 + ((j : Int) + 1) * 3600000 / 4096) : PassOk lp ls s x f A B K := by
  obtain ⟨w1, w2⟩ := h.whole hok
  rw [← hA, ← hB] at w1 w2
  have hij := h.ij
  have hj := h.j1
  have hk := h.k1
  have wh := (lhaE_0.1 w1).2.2
  have dd := (agT_iff hok w1).1 w2
  rw [agT_eq w1] at w2
  refine ⟨hk, by omega, by omega, by omega, by omega, by omega, h.f0, h.f1, w1, w2, lha_valid hok w1, wh, lon_valid (whR_tf hok wh), lon_has dd, fun m hm => ?_⟩
  by_cases e : m = K
  · subst e
    exact ⟨h.e0, lha_valid hok h.e0, fun h => absurd h (Nat.lt_irrefl _)⟩
  · have hn := h.no m (by omega)
    exact ⟨hn.1, lha_valid hok hn.1, fun _ => by rw [← agT_eq hn.1]; exact hn.2⟩
set_option maxHeartbeats 4000000 in
set_option maxRecDepth 100000 in
theorem law33_Passes (vp : Value) (lp : List PgV) {w : World} (hp : PgsD (InB w) w vp lp) (vs : Value) (ls : List StarV) (hv : SlG stR w vs ls) (s : ByteArray) (_ : s.size ≤ maxLen) (x : Int) (_ : (Lit.int .i64 x).wf = true) (f : Int) (wf : (Lit.int .i64 f).wf = true) :
    Calls Tryz.prog 10 #[vp, vs, .string s, .int .i64 x, .int .i64 f] w fun e w' => e = .returned (.bool true) ∧ ∃ d, w' = bw w d := by
  have HAw := Lib.hid (fun W => law33_awake W)
  have HOne := Lib.hid (fun W => law33_one x W)
  have HLa := Lib.hid (fun L => law33_large vp vs lp ls s (lay w L) (hp.lay L) (hv.lay L))
  have HNn := Lib.hid (fun L h => alm_New_no vp vs lp ls (lay w L) (hp.lay L) (inB_lay L) (hv.lay L) h)
  have HNy := Lib.hid (fun L h => alm_New_yes vp vs lp ls (lay w L) (hp.lay L) (inB_lay L) (hv.lay L) h)
  have HWf := Lib.hid wf
  obtain ⟨pa, pc, rfl⟩ := pgs_form hp
  obtain ⟨sa, sc, rfl⟩ := hv.form
  generalize ls.length = m at *
  generalize lp.length = n at *
  clear hp hv wf
  refine lay_start ?_
  go_enter Tryz.func10, Tryz.ntmps10
  go_wp2_with (first | (go_at_call 47; refine (HAw.out _).mono ?_; rintro e w' ⟨rfl, d1, rfl⟩))
  refine (HLa.out _).mono ?_
  rintro e w' ⟨r, rfl, d2, rfl⟩
  rw [lay_bw]
  cases r
  · by_cases hx : x < -10800000
    · go_wp2_with fail
      go_ret
      exact ⟨rfl, lay_ex _ _⟩
    · by_cases hx2 : 10800000 ≤ x
      · go_wp2_with fail
        go_ret
        exact ⟨rfl, lay_ex _ _⟩
      · go_wp2_with fail
        by_cases hE : newE lp ls = 0
        · have hk := newE_0 hE
          refine (HNy.out _ hE).mono ?_
          rintro e w' ⟨bk, d3, rfl, rfl, hB⟩
          have HTr := Lib.hid (fun L => mer_Transit (agT lp ls s x) (fun a b => lhaE lp ls s a b x x) bk s x f (lay _ L) HWf.out (fun a b L' => made_agrees (hB.bw L) hk s x a b L'))
          have HL := Lib.hid (fun a b L => made_Lha hB hk s a b x x L)
          have HLo := Lib.hid (fun a b he L => made_Longitude hB hk s a b he L)
          have HPas := Lib.hid (fun A B K i j h hA hB => pass_ok (lp := lp) (ls := ls) (s := s) (x := x) (f := f) (A := A) (B := B) (K := K) (i := i) (j := j) hk.ok h hA hB)
          clear hB hk hE HNy HNn HLa HAw HWf
          rw [lay_bw] at HTr HL HLo ⊢
          simp only [← lay_appG] at HTr HL HLo
          go_wp2_with (go_at_call 51; refine (HOne.out _).mono ?_; rintro e w' ⟨rfl, dO, rfl⟩)
          refine (HTr.out [_]).mono ?_
          rintro e w' ⟨⟨d4, rfl⟩, hT⟩
          rw [lay_bw]
          rcases hT with ⟨c, hc, rfl⟩ | ⟨K, i, j, hok, rfl⟩
          · have e1 : (c != 0) = true := by simpa using hc
            have e2 : (c == 0) = false := beq_eq_false_iff_ne.2 hc
            go_wp2_with fail
            go_ret
            exact ⟨rfl, lay_ex _ _⟩
          · obtain ⟨A, hA⟩ : ∃ A, A = f + (K : Int) * 3600000 + (i : Int) * 3600000 / 4096 := ⟨_, rfl⟩
            obtain ⟨B, hBe⟩ : ∃ B, B = f + (K : Int) * 3600000 + ((j : Int) + 1) * 3600000 / 4096 := ⟨_, rfl⟩
            have hP := HPas.out A B K i j hok hA hBe
            rw [← hA, ← hBe]
            clear hA hBe hok
            obtain ⟨k1, a0, a1, ab, b1, wd, f0, f1, e, g, v, wh, lv, la, hr⟩ := hP
            have HLt := Lib.hid (fun L => HL.out A B L)
            have HLg := Lib.hid (fun L => HLo.out A B wh L)
            rw [e] at HLt
            have HAg := Lib.hid (fun W => angle_Agree (lhaL lp ls s A B x x) (lhaH lp ls s A B x x) 0 0 W v valid_00)
            rw [g] at HAg
            have HLv := Lib.hid (fun W => ref05_Valid (lonL (whR lp ls s A B).1.a (whR lp ls s A B).1.b) (lonH (whR lp ls s A B).1.a (whR lp ls s A B).1.b) W)
            rw [lv] at HLv
            have HAl := Lib.hid (fun W => angle_Agree (lonL (whR lp ls s A B).1.a (whR lp ls s A B).1.b) (lonH (whR lp ls s A B).1.a (whR lp ls s A B).1.b) x x W lv (validB_iff.2 (by omega)))
            rw [la] at HAl
            have HHr := Lib.hid hr
            clear e g v wh lv la hr HPas HTr
            generalize lonL (whR lp ls s A B).1.a (whR lp ls s A B).1.b = l1 at *
            generalize lonH (whR lp ls s A B).1.a (whR lp ls s A B).1.b = l2 at *
            generalize lhaL lp ls s A B x x = p1 at *
            generalize lhaH lp ls s A B x x = p2 at *
            have q1 : IntKind.i64.wrap (f + 97200000) = f + 97200000 := IntWalk.i64_in _ (by omega)
            have q2 : IntKind.i64.wrap (B - A) = B - A := IntWalk.i64_in _ (by omega)
            have c1 : ¬ A < f := by omega
            have c2 : ¬ B < A := by omega
            have c3 : ¬ f + 97200000 < B := by omega
            have c4 : ¬ 7200000 < B - A := by omega
            go_wp2_with fail
            refine region_mixW [0, 0, 0, 0, 0, 0, 0, 0, 0, 1, 1, 0] (by kernel_rfl) (by kernel_rfl) (by kernel_rfl) ?_
            repeat (first | (refine wpM_quiet (fun K hK => ?_); go_simp; first | (refine hK _ ?_; clear hK K) | (apply Exists.intro; refine ⟨fun _ => ?_, hK _ ?_⟩; (first | (go_at_call 51; exact bq (HOne.out _) (fun d => ⟨d, rfl⟩)) | (go_at_call 51; exact bq (HOne.out _) (fun d => lay_join _ _ _ d)) | (go_at_call 26; exact bq (HLt.out [_, _, _, _]) (fun d => ⟨d, rfl⟩))); clear hK K)) | (refine wpM_special (fun K hK d => ?_); go_simp; refine hK _ _ (by first | exact lay_in w [_] _ | exact lay_in w [_, _] _ | exact lay_in w [_, _, _] _ | exact lay_in w [_, _, _, _] _ | exact lay_in w [_, _, _, _, _] _ | exact lay_in w [_, _, _, _, _, _] _) ?_; clear hK K))
            refine wpM_nil ?_
            intro d
            rw [lay_bw]
            go_wp2_with (go_at_call 24; refine (HAg.out _).mono ?_; rintro e w' ⟨rfl, d5, rfl⟩)
            clear HAg HLt
            go_loopw [19] (fun v19 wr => ∃ (m : Nat) (e : Ext), m ≤ K + 1 ∧ v19 = .int .i64 (f + (m : Int) * 3600000) ∧ wr = lay w [.inr e, .inl (.cells #[.int .i64 A, .int .i64 B] 25 (0, 0)), .inr d4, .inr dO, .inr d3, .inr d2, .inr d1]) (fun v19 _ => (A - intOf v19).toNat)
            case atStart => exact ⟨0, _, by omega, by simp, Classical.choose_spec (lay_fold w [_, _, _, _, _] _)⟩
            case round =>
              obtain ⟨m, e, hm, rfl, rfl⟩ := hrel
              obtain ⟨X, hX⟩ : ∃ X, f + (m : Int) * 3600000 = X := ⟨_, rfl⟩
              have HX := Lib.hid hX
              have hXb : -70368744177664 ≤ X ∧ X ≤ 70368744177664 := by
                have : (m : Int) ≤ 26 := by omega
                omega
              rw [hX]
              clear hX
              have y1 : IntKind.i64.wrap (X + 3600000) = X + 3600000 := IntWalk.i64_in _ (by omega)
              have y2 : IntKind.i64.wrap (X + 7200000) = X + 7200000 := IntWalk.i64_in _ (by omega)
              by_cases hle : X + 3600000 ≤ A
              · have hmK : m ≤ K := by have := HX.out; omega
                have hh := HHr.out m hmK
                rw [HX.out] at hh
                obtain ⟨h1, h2, h3⟩ := hh
                have HLm := Lib.hid (fun L => HL.out X (X + 3600000) L)
                rw [h1] at HLm
                have HAm := Lib.hid (fun W => angle_Agree (lhaL lp ls s X (X + 3600000) x x) (lhaH lp ls s X (X + 3600000) x x) 0 0 W h2 valid_00)
                have hcond : agrB (lhaL lp ls s X (X + 3600000) x x) (lhaH lp ls s X (X + 3600000) x x) 0 0 = true → ¬ X + 7200000 ≤ A := fun h hle2 => by
                  by_cases e : m < K
                  · rw [h3 e] at h; cases h
                  · have : m = K := by omega
                    have := HX.out
                    subst m
                    omega
                generalize agrB (lhaL lp ls s X (X + 3600000) x x) (lhaH lp ls s X (X + 3600000) x x) 0 0 = g at *
                generalize lhaL lp ls s X (X + 3600000) x x = u1 at *
                generalize lhaH lp ls s X (X + 3600000) x x = u2 at *
                clear h1 h2 h3
                cases g
                · go_wp2_with (first | (go_at_call 51; refine (HOne.out _).mono ?_; rintro e w' ⟨rfl, d6, rfl⟩) | (go_at_call 26; refine (HLm.out [_, _, _, _, _]).mono ?_; rintro e w' ⟨rfl, d7, rfl⟩) | (go_at_call 24; refine (HAm.out _).mono ?_; rintro e w' ⟨rfl, d8, rfl⟩))
                  go_roundw
                  case rel => exact ⟨m + 1, _, by omega, by have := HX.out; congr 1; omega, Classical.choose_spec (lay_fold w [_, _, _, _, _] _)⟩
                  case measure => simp [intOf]; omega
                · have hc2 := hcond rfl
                  go_wp2_with (first | (go_at_call 51; refine (HOne.out _).mono ?_; rintro e w' ⟨rfl, d6, rfl⟩) | (go_at_call 26; refine (HLm.out [_, _, _, _, _]).mono ?_; rintro e w' ⟨rfl, d7, rfl⟩) | (go_at_call 24; refine (HAm.out _).mono ?_; rintro e w' ⟨rfl, d8, rfl⟩))
                  go_roundw
                  case rel => exact ⟨m + 1, _, by omega, by have := HX.out; congr 1; omega, Classical.choose_spec (lay_fold w [_, _, _, _, _] _)⟩
                  case measure => simp [intOf]; omega
              · go_wp2_with (first | (go_at_call 52; refine (HLg.out [_, _, _, _]).mono ?_; rintro e w' ⟨rfl, d9, rfl⟩) | (go_at_call 30; refine (HLv.out _).mono ?_; rintro e w' ⟨rfl, dA, rfl⟩))
                refine region_bw (by kernel_rfl) (by kernel_rfl) ?_
                repeat (go_big_quiet_step ((first | (go_at_call 51; exact bq (HOne.out _) (fun d => ⟨d, rfl⟩)) | (go_at_call 51; exact bq (HOne.out _) (fun d => lay_join _ _ _ d)) | (go_at_call 24; exact bq (HAl.out _) (fun d => ⟨d, rfl⟩)) | (go_at_call 24; exact bq (HAl.out _) (fun d => lay_join _ _ _ d)))))
                refine wpQuiet_nil ?_
                rintro w' ⟨d, rfl⟩
                rw [lay_bw]
                go_wp2_with fail
                go_ret
                exact ⟨rfl, lay_ex _ _⟩
        · have e1 : (newE lp ls != 0) = true := by simpa using hE
          have e2 : (newE lp ls == 0) = false := beq_eq_false_iff_ne.2 hE
          refine (HNn.out _ hE).mono ?_
          rintro e w' ⟨rfl, d3, rfl⟩
          generalize newE lp ls = NE at *
          go_wp2_with fail
          go_ret
          exact ⟨rfl, lay_ex _ _⟩
  · go_wp2_with fail
    go_ret
    exact ⟨rfl, lay_ex _ _⟩
end Go.Proofs.YtlkphcjlgbimkaaGreat

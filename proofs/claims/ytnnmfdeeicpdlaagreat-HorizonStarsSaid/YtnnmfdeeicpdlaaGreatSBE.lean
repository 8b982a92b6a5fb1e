/- Contracts and plain laws, several texts in one: Hs6; StA; Hs7 -/
import Derived.Test.YtnnmfdeeicpdlaaGreatProg
import Derived.WalkKit
import Derived.WalkSpells
import Derived.WalkLawsBesides
import Derived.Lib.Hide
import Derived.BigQuiet
import Derived.Test.YtnnmfdeeicpdlaaGreatSAA
import Derived.Test.YtnnmfdeeicpdlaaGreatSAM
import Derived.Test.YtnnmfdeeicpdlaaGreatSAR
import Derived.Test.YtnnmfdeeicpdlaaGreatSAV
import Derived.Test.YtnnmfdeeicpdlaaGreatSAW
import Derived.Test.YtnnmfdeeicpdlaaGreatSBC
import Derived.Test.YtnnmfdeeicpdlaaGreatSBD
/- The law HorizonStars. -/
namespace Go.Proofs.YtnnmfdeeicpdlaaGreat
set_option maxHeartbeats 8000000
set_option maxRecDepth 100000
open Go.RowKit Go.Shelf

theorem siE_allH {lp : List PgV} {ls : List StarV} {s : ByteArray} {x f t : Int} (hx : validB x x = true) (hft : f ≤ t) (hd : t - f ≤ 86400000) (hE : erF (siE lp ls s x) (smp f t) = 0) : ∀ m, f ≤ m → m ≤ t → siE lp ls s x m = 0 := by
  intro m h1 h2
  have key : ∀ z ∈ smp f t, siE lp ls s x z = 0 := by
    have : ∀ (l : List Int), erF (siE lp ls s x) l = 0 → ∀ z ∈ l, siE lp ls s x z = 0 := by
      intro l
      induction l with
      | nil => intro _ z hz; exact absurd hz (List.not_mem_nil)
      | cons a l ih =>
        intro h z hz
        have h' : (if siE lp ls s x a = 0 then erF (siE lp ls s x) l else siE lp ls s x a) = 0 := h
        by_cases c : siE lp ls s x a = 0
        · rw [if_pos c] at h'
          rcases List.mem_cons.1 hz with rfl | hz
          · exact c
          · exact ih h' z hz
        · rw [if_neg c] at h'; exact absurd h' c
    exact this _ hE
  have hf : f ∈ smp f t := by
    by_cases c : f < t
    · rw [smp_lt c]; exact List.mem_cons_self ..
    · rw [smp_end c, show f = t by omega]; exact List.mem_cons_self ..
  have ht : ∀ (k : Nat) (g : Int), (t - g).toNat ≤ k → t ∈ smp g t := by
    intro k
    induction k with
    | zero => intro g h; rw [smp_end (by omega)]; exact List.mem_cons_self ..
    | succ k ih =>
      intro g h
      by_cases c : g < t
      · rw [smp_lt c]; exact List.mem_cons_of_mem _ (ih _ (by omega))
      · rw [smp_end c]; exact List.mem_cons_self ..
  have ef := lhaE_z.1 (key f hf)
  have et := lhaE_z.1 (key t (ht _ f (Nat.le_refl _)))
  have em := whR_day ef.2.2 et.2.2 h1 h2 hd
  exact lhaE_z.2 ⟨whR_tm em, hx, em⟩
theorem pgsD_nilH {P : Nat → Prop} {w : World} : PgsD P w (.slice none 0 0) [] := ⟨[], SlG.nil pgR w, (fun b o n c e _ => by cases e), rfl, fun i x p h => by simp at h⟩
theorem st_lit (z : StarV) (hz : stR.wf z) (w : World) (L : List (Obj ⊕ Ext)) : SlG stR (lay w (.inl (.cells #[.string z.s, .int .i64 z.sha, .int .i64 z.dec, .int .i64 z.mag] 32 (0, 0)) :: L)) (.slice (some ⟨posn w (shp L), 0, none⟩) 1 1) [z] :=
  (owG_lit stOk [z] rfl (Nat.le_of_ble_eq_true rfl) (by intro x hx; rw [List.mem_singleton.1 hx]; exact hz)).sl stOk
theorem law50_Stars_out (z : StarV) (x f : Int) (w : World) (h : ¬ (z.s.size ≤ 100 ∧ -10800000 ≤ x ∧ x < 10800000 ∧ -17592186044416 ≤ f ∧ f ≤ 17592186044416 ∧ -36000 ≤ z.dec ∧ z.dec ≤ 36000)) :
    Calls Tryz.prog 4 #[.agg #[.string z.s, .int .i64 z.sha, .int .i64 z.dec, .int .i64 z.mag], .int .i64 x, .int .i64 f] w fun e w' => e = .returned (.bool true) ∧ ∃ d, w' = bw w d := by
  have HAw := Lib.hid (fun W => law50_awake W)
  obtain ⟨zs, z1, z2, z3⟩ := z
  dsimp only at h ⊢
  refine lay_start ?_
  go_enter Tryz.func4, Tryz.ntmps4
  go_wp2_with (go_at_call 11; refine (HAw.out _).mono ?_; rintro e w' ⟨rfl, d1, rfl⟩; rw [lay_bw])
  all_goals first | (go_ret; exact ⟨rfl, lay_ex _ _⟩) | (exfalso; omega)
theorem law50_Stars_in (z : StarV) (x f : Int) (w : World) (hz : stR.wf z) (g0 : z.s.size ≤ 100) (g1 : -10800000 ≤ x) (g2 : x < 10800000) (g3 : -17592186044416 ≤ f) (g4 : f ≤ 17592186044416) (g5 : -36000 ≤ z.dec) (g6 : z.dec ≤ 36000) :
    Calls Tryz.prog 4 #[.agg #[.string z.s, .int .i64 z.sha, .int .i64 z.dec, .int .i64 z.mag], .int .i64 x, .int .i64 f] w fun e w' => e = .returned (.bool true) ∧ ∃ d, w' = bw w d := by
  have HAw := Lib.hid (fun W => law50_awake W)
  have HZ := Lib.hid hz
  have HD := Lib.hid (And.intro g5 g6)
  have HF := Lib.hid (And.intro g1 (And.intro g2 (And.intro g3 g4)))
  have HL := Lib.hid (fun L => st_lit z hz w L)
  have c0 : ¬ (100 : Int) < (z.s.size : Int) := by omega
  have c1 : ¬ x < -10800000 := by omega
  have c2 : ¬ 10800000 ≤ x := by omega
  have c3 : ¬ f < -17592186044416 := by omega
  have c4 : ¬ 17592186044416 < f := by omega
  have c5 : ¬ z.dec < -36000 := by omega
  have c6 : ¬ 36000 < z.dec := by omega
  have HNn := Lib.hid (fun L (v : Value) (hv : SlG stR (lay w L) v [z]) (h : newE [] [z] ≠ 0) => alm_New_no (P := fun _ => False) (.slice none 0 0) v [] [z] (lay w L) pgsD_nilH (fun _ h => h.elim) hv h)
  have HNy := Lib.hid (fun L (v : Value) (hv : SlG stR (lay w L) v [z]) (h : newE [] [z] = 0) => alm_New_yes (P := fun _ => False) (.slice none 0 0) v [] [z] (lay w L) pgsD_nilH (fun _ h => h.elim) hv h)
  clear g0 g1 g2 g3 g4 g5 g6 hz
  obtain ⟨zs, z1, z2, z3⟩ := z
  dsimp only at c0 c5 c6 HL ⊢
  by_cases hE : newE [] [⟨zs, z1, z2, z3⟩] = 0
  · refine lay_start ?_
    go_enter Tryz.func4, Tryz.ntmps4
    go_wp2_with (go_at_call 11; refine (HAw.out _).mono ?_; rintro e w' ⟨rfl, d1, rfl⟩; rw [lay_bw])
    have HN2 := Lib.hid (HNy.out _ _ (HL.out [.inr d1, .inl (.cells #[.string zs, .int .i64 z1, .int .i64 z2, .int .i64 z3] 32 (0, 0))]) hE)
    refine HN2.out.mono ?_
    rintro e w' ⟨bk, d2, rfl, rfl, hB⟩
    rw [lay_bw] at hB ⊢
    have hk := newE_0 hE
    obtain ⟨k0, k1, cc, dd, hA⟩ := star_at (z := ⟨zs, z1, z2, z3⟩) HD.out.1 HD.out.2
    obtain ⟨f0, f1, f2, f3⟩ := HF.out
    have hvx : validB x x = true := validB_iff.2 (by omega)
    have hq : ptB 0 x = true := ptB_iff.2 (by omega)
    obtain ⟨-, hu, -⟩ := pt_plc hq
    have hS3 : ∀ n m, siS [] [⟨zs, z1, z2, z3⟩] zs 0 x n m = -1 ∨ siS [] [⟨zs, z1, z2, z3⟩] zs 0 x n m = 0 ∨ siS [] [⟨zs, z1, z2, z3⟩] zs 0 x n m = 1 := fun n m => sdI_in _ _ _
    have hE1 := siE_allH (lp := []) (ls := [⟨zs, z1, z2, z3⟩]) (s := zs) hvx (show f ≤ f + 86400000 by omega) (show f + 86400000 - f ≤ 86400000 by omega)
    have hE2 := siE_allH (lp := []) (ls := [⟨zs, z1, z2, z3⟩]) (s := zs) hvx (show f + 86164090 ≤ f + 86164090 + 86400000 by omega) (show f + 86164090 + 86400000 - (f + 86164090) ≤ 86400000 by omega)
    have hs1 := whR_sz (lp := []) (ls := [⟨zs, z1, z2, z3⟩]) (s := zs) (f := f) hk.ok
    have hs2 := whR_sz (lp := []) (ls := [⟨zs, z1, z2, z3⟩]) (s := zs) (f := f + 86164090) hk.ok
    have HWm := made_Where hB hk
    have HC1 := Lib.hid (fun L => hz_RiseSet (whR [] [⟨zs, z1, z2, z3⟩] zs f f).1 (whR [] [⟨zs, z1, z2, z3⟩] zs f f).2 (siS [] [⟨zs, z1, z2, z3⟩] zs 0 x) (siE [] [⟨zs, z1, z2, z3⟩] zs x) bk zs 0 x f (lay _ L) (Lib.hid (fun L' => by rw [← lay_appG]; exact HWm.out zs f f (L' ++ L))) (fun n => WSide.on (fun t L => hz_wside hB hk zs 0 x n t hu L) L) hq hs1 hS3 hE1)
    have HC2 := Lib.hid (fun L => hz_RiseSet (whR [] [⟨zs, z1, z2, z3⟩] zs (f + 86164090) (f + 86164090)).1 (whR [] [⟨zs, z1, z2, z3⟩] zs (f + 86164090) (f + 86164090)).2 (siS [] [⟨zs, z1, z2, z3⟩] zs 0 x) (siE [] [⟨zs, z1, z2, z3⟩] zs x) bk zs 0 x (f + 86164090) (lay _ L) (Lib.hid (fun L' => by rw [← lay_appG]; exact HWm.out zs (f + 86164090) (f + 86164090) (L' ++ L))) (fun n => WSide.on (fun t L => hz_wside hB hk zs 0 x n t hu L) L) hq hs2 hS3 hE2)
    simp only [← lay_appG] at HC1 HC2
    have an1 := hA.answer (x := x) (f := f) hk hvx (by omega) (by omega)
    have an2 := hA.answer (x := x) (f := f + 86164090) hk hvx (by omega) (by omega)
    obtain ⟨q0, q1, q2⟩ := dec_cos hA.c0 hA.cd hA.d1 hA.dw
    have M := ss_model (k0 := k0 + x + 5400000) (k1 := k1 + x + 5400000) (by have := hA.w0; omega) (by have := hA.w1; omega) q0 q1 q2
    generalize ssF (k0 + x + 5400000) (k1 + x + 5400000) (cosL cc dd) (cosH cc dd) = S at *
    dsimp only at an1 an2
    generalize rsF (whR [] [⟨zs, z1, z2, z3⟩] zs f f).1 (whR [] [⟨zs, z1, z2, z3⟩] zs f f).2 (siS [] [⟨zs, z1, z2, z3⟩] zs 0 x) (siE [] [⟨zs, z1, z2, z3⟩] zs x) f = R1 at HC1 an1
    generalize rsF (whR [] [⟨zs, z1, z2, z3⟩] zs (f + 86164090) (f + 86164090)).1 (whR [] [⟨zs, z1, z2, z3⟩] zs (f + 86164090) (f + 86164090)).2 (siS [] [⟨zs, z1, z2, z3⟩] zs 0 x) (siE [] [⟨zs, z1, z2, z3⟩] zs x) (f + 86164090) = R2 at HC2 an2
    unfold rsV at HC1 HC2
    obtain ⟨a, b, c, d, E1⟩ := R1
    obtain ⟨a2, b2, c2', d2', E2⟩ := R2
    dsimp only at HC1 HC2 an1 an2
    have HLe := Lib.hid (fun W => sid_Length W)
    obtain ⟨F2, hF2⟩ : ∃ F2, f + 86164090 = F2 := ⟨_, rfl⟩
    have kF2 : IntKind.i64.wrap F2 = F2 := IntWalk.i64_in _ (by omega)
    rw [hF2] at HC2 an2
    clear hs1 hs2 hE1 hE2 hS3 HWm hB hk hA q0 q1 q2 hu hq hvx HN2 HNn HNy HL HZ HD HAw
    rcases an1 with rfl | r1
    · clear an2 HC2 M kF2 hF2
      go_wp2_with fail
      refine (HC1.out [_]).mono ?_
      rintro e w' ⟨rfl, d5, rfl⟩
      simp only [List.cons_append, List.nil_append, lay_bw]
      go_wp2_with fail
      go_ret
      exact ⟨rfl, lay_ex _ _⟩
    · have x1 := r1.e
      dsimp only at x1
      subst x1
      have ra0 : f ≤ a := r1.a0
      have ra1 : a ≤ f + 86400000 := r1.a1
      have rb1 : b ≤ f + 86400000 := r1.b1
      have rab : a ≤ b := r1.ab
      have rw1 : b - a ≤ 120000 := r1.w1
      have rc0 : f ≤ c := r1.c0
      have rc1 : c ≤ f + 86400000 := r1.c1
      have rw2 : d - c ≤ 120000 := r1.w2
      have rcd : c ≤ d ∧ d ≤ f + 86400000 := r1.dd
      have hup := M.halfDay r1.l0 r1.l1 r1.s0 r1.s1 r1.a0 r1.a1 r1.c0 r1.c1
      dsimp only at hup
      obtain ⟨W1, hW1⟩ : ∃ W, b - a = W := ⟨_, rfl⟩
      obtain ⟨W2, hW2⟩ : ∃ W, d - c = W := ⟨_, rfl⟩
      obtain ⟨F1, hF1⟩ : ∃ F, f + 86400000 = F := ⟨_, rfl⟩
      obtain ⟨U, hU⟩ : ∃ U, c - a = U := ⟨_, rfl⟩
      rw [hU] at hup
      have kW1 : IntKind.i64.wrap W1 = W1 := IntWalk.i64_in _ (by omega)
      have kW2 : IntKind.i64.wrap W2 = W2 := IntWalk.i64_in _ (by omega)
      have kF1 : IntKind.i64.wrap F1 = F1 := IntWalk.i64_in _ (by omega)
      have kU : IntKind.i64.wrap U = U := IntWalk.i64_in _ (by omega)
      have t1 : decide (a < f) = false := decide_eq_false (by omega)
      have t2 : decide (F1 < b) = false := decide_eq_false (by omega)
      have t3 : decide ((120000 : Int) < W1) = false := decide_eq_false (by omega)
      have t4 : decide ((120000 : Int) < W2) = false := decide_eq_false (by omega)
      have HUp := Lib.hid hup
      rcases an2 with rfl | r2
      · clear r1 M hup ra0 ra1 rb1 rab rw1 rc0 rc1 rw2 rcd f0 f1 f2 f3 HF
        go_wp2_with fail
        refine (HC1.out [_]).mono ?_
        rintro e w' ⟨rfl, d5, rfl⟩
        simp only [List.cons_append, List.nil_append, lay_bw]
        go_wp2_with (go_at_call 14; refine (HLe.out _).mono ?_; rintro e w' ⟨rfl, d6, rfl⟩; rw [lay_bw])
        refine (HC2.out [_, _, _, _, _, _]).mono ?_
        rintro e w' ⟨rfl, d7, rfl⟩
        simp only [List.cons_append, List.nil_append, lay_bw]
        go_wp2_with fail
        go_ret
        exact ⟨rfl, lay_ex _ _⟩
      · have x2 := r2.e
        dsimp only at x2
        subst x2
        have sa0 : F2 ≤ a2 := r2.a0
        have sa1 : a2 ≤ F2 + 86400000 := r2.a1
        have hdy := M.days r1.l0 r1.l1 r2.l0 r2.l1 r1.a0 r1.a1 (by dsimp only; omega) (by dsimp only; omega)
        dsimp only at hdy
        obtain ⟨j, y, hy, j0, j2, y0, y1⟩ := hdy
        obtain ⟨G, hG⟩ : ∃ G, a2 - a = G := ⟨_, rfl⟩
        rw [hG] at hy
        have kG : IntKind.i64.wrap G = G := IntWalk.i64_in _ (by omega)
        have HJ := Lib.hid (And.intro hy (And.intro j0 (And.intro j2 (And.intro y0 y1))))
        clear r1 r2 M hup ra0 ra1 rb1 rab rw1 rc0 rc1 rw2 rcd f0 f1 f2 f3 HF sa0 sa1 hy j0 j2 y0 y1
        go_wp2_with fail
        refine (HC1.out [_]).mono ?_
        rintro e w' ⟨rfl, d5, rfl⟩
        simp only [List.cons_append, List.nil_append, lay_bw]
        go_wp2_with (go_at_call 14; refine (HLe.out _).mono ?_; rintro e w' ⟨rfl, d6, rfl⟩; rw [lay_bw])
        refine (HC2.out [_, _, _, _, _, _]).mono ?_
        rintro e w' ⟨rfl, d7, rfl⟩
        simp only [List.cons_append, List.nil_append, lay_bw]
        clear HC1 HC2
        go_wp2_with fail
        go_loopw [16] (fun v16 wr => ∃ i g : Int, 0 ≤ i ∧ i ≤ 2 ∧ g = 86164090 * i + y ∧ v16 = .int .i64 g ∧ wr = lay w [.inl (.cells #[.int .i64 c2', .int .i64 d2'] 39 (0, 0)), .inl (.cells #[.int .i64 a2, .int .i64 b2] 39 (0, 0)), .inr d7, .inl (.cells #[.int .i64 86164090, .int .i64 86164091] 39 (0, 0)), .inr d6, .inl (.cells #[.int .i64 c, .int .i64 d] 39 (0, 0)), .inl (.cells #[.int .i64 a, .int .i64 b] 39 (0, 0)), .inr d5, .inl (.cells #[.int .i64 0, .int .i64 x] 38 (0, 0)), .inr d2, .inl (.cells #[.string zs, .int .i64 z1, .int .i64 z2, .int .i64 z3] 32 (0, 0)), .inr d1, .inl (.cells #[.string zs, .int .i64 z1, .int .i64 z2, .int .i64 z3] 32 (0, 0))]) (fun v16 _ => (intOf v16 + 240000).toNat)
        case atStart => exact ⟨j, G, HJ.out.2.1, HJ.out.2.2.1, HJ.out.1, rfl, rfl⟩
        case round =>
          obtain ⟨i, g, i0, i2, hg, rfl, rfl⟩ := hrel
          obtain ⟨-, -, -, y0, y1⟩ := HJ.out
          by_cases cg : 43200000 < g
          · have hi1 : 1 ≤ i := by omega
            obtain ⟨g2, hg2⟩ : ∃ g2, g - 86164090 = g2 := ⟨_, rfl⟩
            have kg2 : IntKind.i64.wrap g2 = g2 := IntWalk.i64_in _ (by omega)
            have HG := Lib.hid (show 0 ≤ i - 1 ∧ i - 1 ≤ 2 ∧ g2 = 86164090 * (i - 1) + y ∧ g2 < g ∧ 0 ≤ g2 + 240000 by omega)
            clear hg i0 i2 hi1 y0 y1
            go_wp2_with fail
            go_roundw
            case rel => exact ⟨i - 1, g2, HG.out.1, HG.out.2.1, HG.out.2.2.1, rfl, trivial⟩
            case measure => have := HG.out; simp [intOf]; omega
          · obtain rfl : i = 0 := by omega
            obtain rfl : g = y := by omega
            have cg2 : ¬ g < -43200000 := by omega
            have u1 : decide (g < -240000) = false := decide_eq_false (by omega)
            have u2 : decide ((240000 : Int) < g) = false := decide_eq_false (by omega)
            clear hg i0 i2 y0 y1
            go_wp2_with fail
            go_loopw [16] (fun v16 wr => v16 = .int .i64 g ∧ wr = lay w [.inl (.cells #[.int .i64 c2', .int .i64 d2'] 39 (0, 0)), .inl (.cells #[.int .i64 a2, .int .i64 b2] 39 (0, 0)), .inr d7, .inl (.cells #[.int .i64 86164090, .int .i64 86164091] 39 (0, 0)), .inr d6, .inl (.cells #[.int .i64 c, .int .i64 d] 39 (0, 0)), .inl (.cells #[.int .i64 a, .int .i64 b] 39 (0, 0)), .inr d5, .inl (.cells #[.int .i64 0, .int .i64 x] 38 (0, 0)), .inr d2, .inl (.cells #[.string zs, .int .i64 z1, .int .i64 z2, .int .i64 z3] 32 (0, 0)), .inr d1, .inl (.cells #[.string zs, .int .i64 z1, .int .i64 z2, .int .i64 z3] 32 (0, 0))]) (fun _ _ => 0)
            case atStart => exact ⟨rfl, rfl⟩
            case round =>
              obtain ⟨rfl, rfl⟩ := hrel
              rcases HUp.out with ⟨v0, v1, v2⟩ | ⟨v0, v1, v2⟩
              · have v3 : ¬ U < 0 := by omega
                have v4 : decide ((42600000 : Int) < U) = true := decide_eq_true v1
                have v5 : decide (U < 45000000) = true := decide_eq_true v2
                go_wp2_with fail
                go_ret
                exact ⟨rfl, lay_ex _ _⟩
              · obtain ⟨V, hV⟩ : ∃ V, U + 86164090 = V := ⟨_, rfl⟩
                have kV : IntKind.i64.wrap V = V := IntWalk.i64_in _ (by omega)
                rw [hV] at v1 v2
                have v4 : decide ((42600000 : Int) < V) = true := decide_eq_true v1
                have v5 : decide (V < 45000000) = true := decide_eq_true v2
                go_wp2_with fail
                go_ret
                exact ⟨rfl, lay_ex _ _⟩
  · obtain ⟨E, hEe⟩ : ∃ E, newE [] [⟨zs, z1, z2, z3⟩] = E := ⟨_, rfl⟩
    have g1 : (E != 0) = true := by rw [← hEe]; simpa using hE
    refine lay_start ?_
    go_enter Tryz.func4, Tryz.ntmps4
    go_wp2_with (go_at_call 11; refine (HAw.out _).mono ?_; rintro e w' ⟨rfl, d1, rfl⟩; rw [lay_bw])
    have HN2 := Lib.hid (HNn.out _ _ (HL.out [.inr d1, .inl (.cells #[.string zs, .int .i64 z1, .int .i64 z2, .int .i64 z3] 32 (0, 0))]) hE)
    rw [hEe] at HN2
    refine HN2.out.mono ?_
    rintro e w' ⟨rfl, d2, rfl⟩
    rw [lay_bw]
    go_wp2_with fail
    go_ret
    exact ⟨rfl, lay_ex _ _⟩
theorem law50_Stars (z : StarV) (x f : Int) (w : World) (hz : stR.wf z) :
    Calls Tryz.prog 4 #[.agg #[.string z.s, .int .i64 z.sha, .int .i64 z.dec, .int .i64 z.mag], .int .i64 x, .int .i64 f] w fun e w' => e = .returned (.bool true) ∧ ∃ d, w' = bw w d := by
  by_cases h : z.s.size ≤ 100 ∧ -10800000 ≤ x ∧ x < 10800000 ∧ -17592186044416 ≤ f ∧ f ≤ 17592186044416 ∧ -36000 ≤ z.dec ∧ z.dec ≤ 36000
  · exact law50_Stars_in z x f w hz h.1 h.2.1 h.2.2.1 h.2.2.2.1 h.2.2.2.2.1 h.2.2.2.2.2.1 h.2.2.2.2.2.2
  · exact law50_Stars_out z x f w h
end Go.Proofs.YtnnmfdeeicpdlaaGreat
/- A star off an argument. -/
namespace Go.Proofs.YtnnmfdeeicpdlaaGreat
open Go.RowKit

set_option maxRecDepth 100000 in
theorem star_arg {H : Type} {enc : TypeId × Value → H} {w : World} {r : Reach} {b0 : Nat} {v : Value} {d : DataW H} {ps : List MemPlace} (hv : Value.okWide Tryz.prog w r b0 32 v) (h : DataW.Trod enc Tryz.prog w 0 (fun _ => true) true 32 v d ps) : ∃ z : StarV, v = .agg #[.string z.s, .int .i64 z.sha, .int .i64 z.dec, .int .i64 z.mag] ∧ stR.wf z := by
  have hC : Tryz.prog.cellsOf 32 = 4 := by kernel_rfl
  obtain ⟨cs, rfl, hsz⟩ := Go.WideShapes.okWide_struct Tryz.underlying32 hv
  obtain ⟨l⟩ := cs
  obtain ⟨fuel, hf⟩ := h
  obtain ⟨z, hz, hw, -⟩ := st_elem (ts := 9) (ti := 3) Tryz.underlying32 (by kernel_rfl) ⟨rfl, rfl, rfl, rfl⟩ Tryz.underlying9 Tryz.underlying3 fuel l _ hf (hsz.trans hC)
  exact ⟨z, by rw [hz]; rfl, hw⟩
end Go.Proofs.YtnnmfdeeicpdlaaGreat
/- The law HorizonStars at arguments as the frame hands them. -/
namespace Go.Proofs.YtnnmfdeeicpdlaaGreat
open Go.RowKit Go.Shelf

theorem law50_StarsF (z : StarV) (hz : stR.wf z) (x : Int) (_ : (Lit.int .i64 x).wf = true) (f : Int) (_ : (Lit.int .i64 f).wf = true) {w : World} :
    Calls Tryz.prog 4 #[.agg #[.string z.s, .int .i64 z.sha, .int .i64 z.dec, .int .i64 z.mag], .int .i64 x, .int .i64 f] w fun e w' => e = .returned (.bool true) ∧ ∃ d, w' = bw w d :=
  law50_Stars z x f w hz
end Go.Proofs.YtnnmfdeeicpdlaaGreat

/- Contracts and plain laws, several texts in one: HzG; HzI; Hz1; Hz6; Hz7 -/
import Derived.Test.YthjfadfebhjhbaaGreatProg
import Derived.WalkKit
import Derived.WalkSpells
import Derived.WalkLawsBesides
import Derived.Lib.Hide
import Derived.BigQuiet
import Derived.Test.YthjfadfebhjhbaaGreatQAA
import Derived.Test.YthjfadfebhjhbaaGreatQAB
import Derived.Test.YthjfadfebhjhbaaGreatQAX
import Derived.Test.YthjfadfebhjhbaaGreatQBM
import Derived.Test.YthjfadfebhjhbaaGreatQBO
/- Crossings (package horizon), for right arguments. -/
namespace Go.Proofs.YthjfadfebhjhbaaGreat
open Go.RowKit Go.Shelf

structure TmV where
  lo : Int
  hi : Int
def tmR : RecT TmV := { E := 25, S := 54, k := 2, bytes := 16, enc := fun c => [.int .i64 c.lo, .int .i64 c.hi], wf := fun c => (Lit.int .i64 c.lo).wf = true ∧ (Lit.int .i64 c.hi).wf = true }
theorem info_tm : (Tryz.prog.info? 25).map (fun i => (i.zero.map (fun z => z.cells.size), i.size, i.bytes)) = some (some 2, 2, 16) := by kernel_rfl
theorem tmOk : RecOk tmR where
  len _ := rfl
  one x u hu := by
    simp only [tmR, List.mem_cons, List.not_mem_nil, or_false] at hu
    rcases hu with rfl | rfl <;> rfl
  pos := by decide
  und := Tryz.underlying54
  info := recInfo info_tm
  small := by decide
def tmO (c : CrV) : TmV := ⟨c.lo, c.hi⟩
theorem crF_len (S : Int → Int) : ∀ (l : List Int) (a k : Int), (crF S l a k).length ≤ l.length
  | [], _, _ => Nat.le_refl _
  | t :: l, a, k => by
    have h1 := crF_len S l a k
    have h2 := crF_len S l t (S t)
    by_cases c : S t = 0
    · rw [cr_zero c, List.length_cons]; omega
    · by_cases g : k = 0 ∨ S t = k
      · rw [cr_same c g, List.length_cons]; omega
      · rw [not_or] at g
        rw [cr_cross c g.1 g.2, List.length_cons, List.length_cons]; omega
set_option maxHeartbeats 1000000 in
theorem hz_altitudes (n : Int) (w : World) :
    Calls Tryz.prog 49 #[.int .i64 n] w fun e w' => e = .returned (.bool (decide (-5400000 ≤ n ∧ n ≤ 5400000))) ∧ ∃ d, w' = bw w d := by
  refine lay_start ?_
  go_enter Tryz.func49, Tryz.ntmps49
  go_wp2
  all_goals go_ret
  all_goals exact ⟨ret_bool (by rw [Bool.eq_iff_iff]; simp; try omega), lay_ex _ _⟩
def CrsPost (S E : Int → Int) (f t : Int) (w : World) (e : Ending) (w' : World) : Prop :=
  (∃ d, w' = bw w d) ∧ ((erF E (smp f t) ≠ 0 ∧ e = .returned (.tuple #[.slice none 0 0, .int .i64 (erF E (smp f t))])) ∨ (erF E (smp f t) = 0 ∧ ∃ v, e = .returned (.tuple #[v, .int .i64 0]) ∧ SlG tmR w' v ((crF S (smp f t) 0 0).map tmO)))
set_option maxHeartbeats 8000000 in
set_option maxRecDepth 100000 in
theorem hz_Crossings (S E : Int → Int) (bk : Nat) (s : ByteArray) (u x n f t : Int) (w : World) (HS0 : WSide S E bk s u x n w) (hp : ptB u x = true) (hn : -5400000 ≤ n ∧ n ≤ 5400000) (hft : f ≤ t) (h2d : t - f ≤ 172800000) (f0 : -70368744177664 ≤ f) (t0 : t ≤ 70368744177664) (hS3 : ∀ m, S m = -1 ∨ S m = 0 ∨ S m = 1) (hE : erF E (smp f t) = 0 → ∀ m, f ≤ m → m ≤ t → E m = 0) :
    Calls Tryz.prog 20 #[.pointer (some ⟨bk, 0, none⟩), .string s, (.agg #[.int .i64 (u), .int .i64 (x)]), .int .i64 n, .int .i64 f, .int .i64 t] w (CrsPost S E f t w) := by
  have HH := Lib.hid (fun W => hz_here bk u x W)
  rw [hp, if_pos rfl] at HH
  have HA := Lib.hid (fun W => hz_altitudes n W)
  rw [decide_eq_true hn] at HA
  have HI1 := Lib.hid (fun W => hz_instant f W)
  have HI2 := Lib.hid (fun W => hz_instant t W)
  rw [show insB f = true from decide_eq_true (by omega)] at HI1
  rw [show insB t = true from decide_eq_true (by omega)] at HI2
  have HC := Lib.hid (fun L => hz_crossings S E bk s u x n f t (lay w L) (HS0.on L) hft h2d f0 t0 hS3 hE)
  have hlen := smp_len (f := f) (t := t) 144 (by omega)
  have hcl := crF_len S (smp f t) 0 0
  have k1 : IntKind.i64.wrap (t - f) = t - f := IntWalk.i64_in _ (by omega)
  have c1 : ¬ t < f := by omega
  have c2 : ¬ 172800000 < t - f := by omega
  clear HS0 hp hn hft h2d f0 t0 hS3 hE
  refine lay_start ?_
  go_enter Tryz.func20, Tryz.ntmps20
  go_wp2_with (first | (go_at_call 36; refine (HH.out _).mono ?_; rintro e w' ⟨rfl, d1, rfl⟩; rw [lay_bw]) | (go_at_call 49; refine (HA.out _).mono ?_; rintro e w' ⟨rfl, d2, rfl⟩; rw [lay_bw]) | (go_at_call 37; first | ((with_reducible refine (HI1.out _).mono ?_); rintro e w' ⟨rfl, d3, rfl⟩; rw [lay_bw]) | ((with_reducible refine (HI2.out _).mono ?_); rintro e w' ⟨rfl, d4, rfl⟩; rw [lay_bw])))
  refine (HC.out _).mono ?_
  rintro e w' ⟨⟨d5, rfl⟩, hcase⟩
  rw [lay_bw] at hcase ⊢
  rcases hcase with ⟨her, rfl⟩ | ⟨her, v, rfl, hv⟩
  · obtain ⟨EX, hEX⟩ : ∃ EX, erF E (smp f t) = EX := ⟨_, rfl⟩
    rw [hEX] at her ⊢
    have g1 : (EX != 0) = true := by simpa using her
    have g2 : (EX == 0) = false := beq_eq_false_iff_ne.2 her
    go_wp2_with fail
    exact bodyPost_ret (v := .tuple #[.slice none 0 0, .int .i64 EX]) (by simp [results, Tryz.results20, go_sem]) rfl ⟨lay_ex _ _, .inl ⟨by rw [hEX]; exact her, by rw [hEX]⟩⟩
  · obtain ⟨va, vc, rfl, hcap, hwf, hopen⟩ := hv
    have hex : ∀ L, ∃ z, lay (lay w [.inr d5, .inr d4, .inr d3, .inr d2, .inl (.cells #[.int .i64 u, .int .i64 u, .int .i64 x, .int .i64 x] 28 (0, 0)), .inr d1, .inl (.cells #[.int .i64 u, .int .i64 x] 30 (0, 0))]) L = bw w z := fun L => by rw [← lay_appG]; exact lay_ex _ _
    obtain ⟨l, hl⟩ : ∃ l, crF S (smp f t) 0 0 = l := ⟨_, rfl⟩
    rw [hl] at hcap hwf hopen hcl ⊢
    obtain ⟨N, hN⟩ : ∃ N, l.length = N := ⟨_, rfl⟩
    rw [hN] at hcap hcl ⊢
    go_wp2_with fail
    generalize hw2 : lay w [.inr d5, .inr d4, .inr d3, .inr d2, .inl (.cells #[.int .i64 u, .int .i64 u, .int .i64 x, .int .i64 x] 28 (0, 0)), .inr d1, .inl (.cells #[.int .i64 u, .int .i64 x] 30 (0, 0))] = w at hopen hex ⊢
    clear hw2
    have HWF := Lib.hid hwf
    have HR : Hid (∀ i c, l[i]? = some c → ∃ b o, va = some ⟨b, o, none⟩ ∧ b < w.heap.size ∧ w.cell? ⟨b, o + i * 3, none⟩ = some (.int .i64 c.lo) ∧ w.cell? ⟨b, o + i * 3 + 1, none⟩ = some (.int .i64 c.hi) ∧ w.cell? ⟨b, o + i * 3 + 2, none⟩ = some (.bool c.up)) := Lib.hid (fun i c hc => by
      obtain ⟨b, o, e, hb, hr⟩ := hopen (by rintro rfl; simp at hc)
      exact ⟨b, o, e, hb, hr i c hc 0 _ rfl, hr i c hc 1 _ rfl, hr i c hc 2 _ rfl⟩)
    clear hopen hwf HH HA HI1 HI2 HC
    go_loopw [68, 17] (fun v68 v17 wr => ∃ (i : Nat) (d : Ext), i ≤ N ∧ v68 = .int .i64 (i : Int) ∧ wr = lay w [.inr d] ∧ OwG tmR (lay w [.inr d]) w.heap.size v17 ((l.take i).map tmO)) (fun v68 _ _ => ((N : Int) - intOf v68).toNat)
    case atStart => exact ⟨0, noExt _, Nat.zero_le _, rfl, (bw_noExt _).symm, by rw [List.take_zero]; exact OwG.nil _ _ _⟩
    case round =>
      obtain ⟨i, d, hi, rfl, rfl, hO⟩ := hrel
      have HO := Lib.hid hO
      obtain ⟨oa, oc, rfl⟩ := hO.form
      have hol : ((l.take i).map tmO).length = i := by rw [List.length_map, List.length_take]; omega
      rw [hol]
      rw [hol] at HO
      clear hO
      have kI : IntKind.i64.wrap ((i : Int) + 1) = ((i + 1 : Nat) : Int) := by rw [IntWalk.i64_in _ (by omega)]; omega
      by_cases c : i < N
      · obtain ⟨z, hz⟩ : ∃ z, l[i]? = some z := ⟨_, List.getElem?_eq_getElem (by omega)⟩
        obtain ⟨b, o, rfl, hb, e0, e1, e2⟩ := HR.out i z hz
        have i0 : (0 : Int) ≤ (i : Int) := by omega
        have i1 : (i : Int) < (N : Int) := by omega
        have HWZ : Hid (tmR.wf (tmO z)) := Lib.hid (HWF.out z (List.mem_of_getElem? hz))
        have htk : (l.take (i + 1)).map tmO = (l.take i).map tmO ++ [tmO z] := by
          rw [List.take_add_one, hz, List.map_append]; rfl
        have HTK := Lib.hid htk
        have hb1 : i ≤ 145 := by omega
        obtain ⟨z0, z1, z2⟩ := z
        dsimp only at e0 e1 e2
        clear htk hz hol
        go_wp2_with (at_builtin; refine push_rec tmOk rfl _ _ rfl (lay w []) _ (tmO ⟨z0, z1, z2⟩) #[.int .i64 z0, .int .i64 z1] 25 _ _ ((l.take i).map tmO) ?_ (by first | exact owG_on (A := [_, _]) HO.out | exact owG_on (A := [_, _, _]) HO.out) ?_ rfl rfl rfl (by rw [List.length_map, List.length_take]; omega) HWZ.out ?_; (first | exact lay_belowG (A := [_, _, _]) (B := []) | exact lay_belowG (A := [_, _, _, _]) (B := [])); exact lay_get w _ 0 _ rfl; intro v4 d4 hv4)
        go_roundw
        case rel => exact ⟨i + 1, d4, by omega, rfl, rfl, by rw [HTK.out]; exact hv4⟩
        case measure => simp [intOf]; omega
      · obtain rfl : i = N := by omega
        go_wp2_with fail
        exact bodyPost_ret (v := .tuple #[.slice oa i oc, .int .i64 0]) (by simp [results, Tryz.results20, go_sem]) rfl ⟨hex _, .inr ⟨her, _, rfl, by
          have h := HO.out.sl tmOk
          rw [List.take_of_length_le (by omega)] at h
          rw [hl]
          exact h⟩⟩
end Go.Proofs.YthjfadfebhjhbaaGreat
/- Crossings follow one another: the plain law; the reference's Given. -/
namespace Go.Proofs.YthjfadfebhjhbaaGreat
open Go.RowKit Go.Shelf

def CrL (S : Int → Int) (f t : Int) : Int → Int → List CrV → Prop
  | _, _, [] => True
  | a, k, c :: l => (k ≠ 0 → a ≤ c.lo ∧ S c.lo = k) ∧ S c.lo ≠ 0 ∧ S c.hi = -(S c.lo) ∧ f ≤ c.lo ∧ c.lo < c.hi ∧ c.hi ≤ t ∧ CrL S f t c.hi (S c.hi) l
theorem CrL.weak {S : Int → Int} {f t a k b : Int} : ∀ {l : List CrV}, CrL S f t a k l → CrL S f t b 0 l
  | [], _ => trivial
  | _ :: _, h => ⟨fun e => absurd rfl e, h.2⟩
theorem crF_ok {S : Int → Int} {f t : Int} (hS : ∀ m, S m = -1 ∨ S m = 0 ∨ S m = 1) : ∀ (A : List Int) (a k b : Int), A.Pairwise (· < ·) → (∀ z ∈ A, f ≤ z ∧ z ≤ t) → (k ≠ 0 → S a = k ∧ f ≤ a ∧ b ≤ a ∧ ∀ z ∈ A, a < z) → CrL S f t b k (crF S A a k)
  | [], _, _, _, _, _, _ => trivial
  | z :: A, a, k, b, hp, hm, hk => by
    obtain ⟨hp1, hp2⟩ := List.pairwise_cons.1 hp
    have hm2 : ∀ y ∈ A, f ≤ y ∧ y ≤ t := fun y hy => hm y (List.mem_cons_of_mem _ hy)
    have hz := hm z (List.mem_cons_self ..)
    by_cases c : S z = 0
    · rw [cr_zero c]
      exact crF_ok hS A a k b hp2 hm2 (fun h => ⟨(hk h).1, (hk h).2.1, (hk h).2.2.1, fun y hy => (hk h).2.2.2 y (List.mem_cons_of_mem _ hy)⟩)
    · by_cases g : k = 0
      · subst g
        rw [cr_same c (.inl rfl)]
        exact (crF_ok hS A z (S z) z hp2 hm2 (fun _ => ⟨rfl, hz.1, Int.le_refl _, hp1⟩)).weak
      · obtain ⟨k1, k2, k3, k4⟩ := hk g
        have haz := k4 z (List.mem_cons_self ..)
        by_cases g2 : S z = k
        · rw [cr_same c (.inr g2)]
          have := crF_ok hS A z (S z) b hp2 hm2 (fun _ => ⟨rfl, hz.1, by omega, hp1⟩)
          rw [g2] at this ⊢
          exact this
        · rw [cr_cross c g g2]
          have h1 := lst_is S k ((z - a).toNat) a z (by omega) haz k1
          have h2 := fst_is S (S z) ((z - a).toNat) a z (by omega) haz rfl
          have h3 := lst_fst S (fun e => g2 e.symm) ((z - a).toNat) a z (by omega) haz k1 rfl
          have h4 : S z = -k := by have := hS z; have := hS a; omega
          have h5 := crF_ok hS A z (S z) (fstR S (S z) a z) hp2 hm2 (fun _ => ⟨rfl, hz.1, h2.2.2, hp1⟩)
          refine ⟨fun _ => ⟨?_, h1.1⟩, ?_, ?_, ?_, h3, ?_, ?_⟩
          · show b ≤ lstR S k a z
            omega
          · show S (lstR S k a z) ≠ 0
            rw [h1.1]; exact g
          · show S (fstR S (S z) a z) = -(S (lstR S k a z))
            rw [h1.1, h2.1, h4]
          · show f ≤ lstR S k a z
            omega
          · show fstR S (S z) a z ≤ t
            omega
          · show CrL S f t (fstR S (S z) a z) (S (fstR S (S z) a z)) _
            rw [h2.1]
            exact h5
theorem cr_all {S : Int → Int} {f t : Int} (hS : ∀ m, S m = -1 ∨ S m = 0 ∨ S m = 1) (hf : f ≤ t) : CrL S f t 0 0 (crF S (smp f t) 0 0) := by
  obtain ⟨h1, h2⟩ := smp_mem ((t - f).toNat) f (by omega) hf
  exact crF_ok hS _ 0 0 0 h2 h1 (fun h => absurd rfl h)
def gvnO (n f t : Int) : Int := if n < -5400000 ∨ 5400000 < n ∨ insB f = false ∨ insB t = false then 2 else if t < f then 17 else if 172800000 < t - f then 4 else 0
theorem gvnO_0 {n f t : Int} (h : gvnO n f t = 0) : (-5400000 ≤ n ∧ n ≤ 5400000) ∧ f ≤ t ∧ t - f ≤ 172800000 ∧ -70368744177664 ≤ f ∧ t ≤ 70368744177664 ∧ insB f = true ∧ insB t = true := by
  unfold gvnO at h
  split at h
  · cases h
  · rename_i c
    split at h
    · cases h
    · split at h
      · cases h
      · simp only [not_or] at c
        obtain ⟨c1, c2, c3, c4⟩ := c
        have d3 : insB f = true := by simpa using c3
        have d4 : insB t = true := by simpa using c4
        have e3 := of_decide_eq_true d3
        have e4 := of_decide_eq_true d4
        exact ⟨by omega, by omega, by omega, e3.1, e4.2, d3, d4⟩
set_option maxHeartbeats 2000000 in
set_option maxRecDepth 100000 in
theorem r50_Given (n f t : Int) (w : World) :
    Calls Tryz.prog 19 #[.int .i64 n, .int .i64 f, .int .i64 t] w fun e w' => e = .returned (.int .i64 (gvnO n f t)) ∧ ∃ d, w' = bw w d := by
  have H1 := Lib.hid (fun W => ref10_Instant f W)
  have H2 := Lib.hid (fun W => ref10_Instant t W)
  by_cases c1 : n < -5400000
  · have e : gvnO n f t = 2 := if_pos (.inl c1)
    rw [e]
    clear e
    refine lay_start ?_
    go_enter Tryz.func19, Tryz.ntmps19
    go_wp2_with fail
    go_ret
    exact ⟨rfl, by first | exact lay_ex _ _ | exact ⟨noExt _, (bw_noExt _).symm⟩⟩
  · by_cases c2 : 5400000 < n
    · have e : gvnO n f t = 2 := if_pos (.inr (.inl c2))
      rw [e]
      clear e
      refine lay_start ?_
      go_enter Tryz.func19, Tryz.ntmps19
      go_wp2_with fail
      go_ret
      exact ⟨rfl, by first | exact lay_ex _ _ | exact ⟨noExt _, (bw_noExt _).symm⟩⟩
    · cases c3 : insB f
      · have e : gvnO n f t = 2 := if_pos (.inr (.inr (.inl c3)))
        rw [e]
        rw [c3] at H1
        clear e c3
        refine lay_start ?_
        go_enter Tryz.func19, Tryz.ntmps19
        go_wp2_with (go_at_call 42; refine (H1.out _).mono ?_; rintro e w' ⟨rfl, rfl⟩)
        go_ret
        exact ⟨rfl, by first | exact lay_ex _ _ | exact ⟨noExt _, (bw_noExt _).symm⟩⟩
      · cases c4 : insB t
        · have e : gvnO n f t = 2 := if_pos (.inr (.inr (.inr c4)))
          rw [e]
          rw [c3] at H1
          rw [c4] at H2
          clear e c3 c4
          refine lay_start ?_
          go_enter Tryz.func19, Tryz.ntmps19
          go_wp2_with (go_at_call 42; first | ((with_reducible refine (H1.out _).mono ?_); rintro e w' ⟨rfl, rfl⟩) | ((with_reducible refine (H2.out _).mono ?_); rintro e w' ⟨rfl, rfl⟩))
          go_ret
          exact ⟨rfl, by first | exact lay_ex _ _ | exact ⟨noExt _, (bw_noExt _).symm⟩⟩
        · have e : gvnO n f t = if t < f then 17 else if 172800000 < t - f then 4 else 0 := if_neg (by rw [c3, c4]; simp; omega)
          have e3 := of_decide_eq_true c3
          have e4 := of_decide_eq_true c4
          have k1 : IntKind.i64.wrap (t - f) = t - f := IntWalk.i64_in _ (by omega)
          rw [e]
          rw [c3] at H1
          rw [c4] at H2
          clear e c3 c4 e3 e4
          by_cases c5 : t < f
          · rw [if_pos c5]
            refine lay_start ?_
            go_enter Tryz.func19, Tryz.ntmps19
            go_wp2_with (go_at_call 42; first | ((with_reducible refine (H1.out _).mono ?_); rintro e w' ⟨rfl, rfl⟩) | ((with_reducible refine (H2.out _).mono ?_); rintro e w' ⟨rfl, rfl⟩))
            go_ret
            exact ⟨rfl, by first | exact lay_ex _ _ | exact ⟨noExt _, (bw_noExt _).symm⟩⟩
          · rw [if_neg c5]
            by_cases c6 : 172800000 < t - f
            · rw [if_pos c6]
              refine lay_start ?_
              go_enter Tryz.func19, Tryz.ntmps19
              go_wp2_with (go_at_call 42; first | ((with_reducible refine (H1.out _).mono ?_); rintro e w' ⟨rfl, rfl⟩) | ((with_reducible refine (H2.out _).mono ?_); rintro e w' ⟨rfl, rfl⟩))
              go_ret
              exact ⟨rfl, by first | exact lay_ex _ _ | exact ⟨noExt _, (bw_noExt _).symm⟩⟩
            · rw [if_neg c6]
              refine lay_start ?_
              go_enter Tryz.func19, Tryz.ntmps19
              go_wp2_with (go_at_call 42; first | ((with_reducible refine (H1.out _).mono ?_); rintro e w' ⟨rfl, rfl⟩) | ((with_reducible refine (H2.out _).mono ?_); rintro e w' ⟨rfl, rfl⟩))
              go_ret
              exact ⟨rfl, by first | exact lay_ex _ _ | exact ⟨noExt _, (bw_noExt _).symm⟩⟩
end Go.Proofs.YthjfadfebhjhbaaGreat
/- The large and the made of the law of chapter 50. -/
namespace Go.Proofs.YthjfadfebhjhbaaGreat
open Go.RowKit Go.Shelf

set_option maxHeartbeats 1000000 in
theorem law50_large2 (x : StarV) (w : World) :
    Calls Tryz.prog 84 #[.agg #[.string x.s, .int .i64 x.sha, .int .i64 x.dec, .int .i64 x.mag]] w fun e w' => e = .returned (.bool (decide ((100 : Int) < (x.s.size : Int)))) ∧ ∃ d, w' = bw w d := by
  obtain ⟨xs, x1, x2, x3⟩ := x
  dsimp only
  refine lay_start ?_
  go_enter Tryz.func84, Tryz.ntmps84
  go_wp2
  go_ret
  exact ⟨rfl, lay_ex _ _⟩
def lgP5 (p : PgV) : Bool := decide ((4 : Int) < (p.ts.length : Int)) || p.ts.any lgT
set_option maxHeartbeats 1000000 in
theorem law50_large11 {P : Nat → Prop} (x : TkW) (t : TrkV) (w : World) (h : TkD P w x t) :
    Calls Tryz.prog 82 #[.agg #[.string x.s, .slice x.ga x.gn x.gc, .slice x.da x.dn x.dc, .int .i64 x.p, .int .i64 x.q, .int .i64 x.r]] w fun e w' => e = .returned (.bool (lgT t)) ∧ ∃ d, w' = bw w d := by
  obtain ⟨h1, h2⟩ := tkD_len h
  have h3 := h.s
  unfold lgT
  rw [← h1, ← h2, ← h3]
  clear h h1 h2 h3
  obtain ⟨xs, ga, gn, gc, da, dn, dc, xp, xq, xr⟩ := x
  dsimp only
  by_cases a1 : (100 : Int) < (xs.size : Int)
  · rw [decide_eq_true a1]
    refine lay_start ?_
    go_enter Tryz.func82, Tryz.ntmps82
    go_wp2
    go_ret
    exact ⟨rfl, lay_ex _ _⟩
  · rw [decide_eq_false a1]
    by_cases a2 : (40 : Int) < (gn : Int)
    · rw [decide_eq_true a2]
      refine lay_start ?_
      go_enter Tryz.func82, Tryz.ntmps82
      go_wp2
      go_ret
      exact ⟨rfl, lay_ex _ _⟩
    · rw [decide_eq_false a2]
      refine lay_start ?_
      go_enter Tryz.func82, Tryz.ntmps82
      go_wp2
      go_ret
      exact ⟨by simp, lay_ex _ _⟩
theorem tks_large50 {P : Nat → Prop} (v : Value) (l : List TrkV) (w : World) (hv : TksD P w v l) :
    Calls Tryz.prog 81 #[v, .func (.func 82) #[] #[]] w fun e w' => e = .returned (.bool (l.any lgT)) ∧ ∃ d, w' = bw w d := by
  obtain ⟨ls, p, h1, h2, h3⟩ := tk_lift hv lgT
  rw [← h2]
  have eI : ∀ args w, (callFunc 82 args).run Tryz.prog w = .ok (.enter 82 args) w := enters_of Tryz.func82 (by kernel_rfl) rfl
  refine tk_ContainsFunc 82 [] p v ls w h1 eI fun x hx d => ?_
  obtain ⟨t, _, ht, e⟩ := h3 x hx
  rw [e]
  exact (law50_large11 (P := P) x t (bw w d) (ht.bw' d)).mono fun e w' ⟨a, b, c⟩ => ⟨a, _, c.trans (bw_bw _ _ _)⟩
set_option maxHeartbeats 1000000 in
theorem law50_large1 {P : Nat → Prop} (x : PgW) (p : PgV) (w : World) (h : PgD P w x p) :
    Calls Tryz.prog 80 #[.agg #[.int .i64 x.y, .int .i64 x.m, .int .i64 x.d, .slice x.ta x.tn x.tc]] w fun e w' => e = .returned (.bool (lgP5 p)) ∧ ∃ d, w' = bw w d := by
  have h1 := tksD_len h.ts
  have HC := Lib.hid (fun L => tks_large50 (.slice x.ta x.tn x.tc) p.ts (lay w L) (h.ts.lay L))
  unfold lgP5
  rw [← h1]
  clear h h1
  generalize p.ts.any lgT = r at *
  obtain ⟨xy, xm, xd, xa, xn, xc⟩ := x
  dsimp only at *
  by_cases a1 : (4 : Int) < (xn : Int)
  · rw [decide_eq_true a1]
    refine lay_start ?_
    go_enter Tryz.func80, Tryz.ntmps80
    go_wp2_with (go_at_call 81; refine (HC.out _).mono ?_; rintro e w' ⟨rfl, d, rfl⟩)
    go_ret
    exact ⟨rfl, lay_ex _ _⟩
  · rw [decide_eq_false a1]
    refine lay_start ?_
    go_enter Tryz.func80, Tryz.ntmps80
    go_wp2_with (go_at_call 81; refine (HC.out _).mono ?_; rintro e w' ⟨rfl, d, rfl⟩)
    go_ret
    exact ⟨rfl, lay_ex _ _⟩
theorem pgs_large50 {P : Nat → Prop} (v : Value) (l : List PgV) (w : World) (hv : PgsD P w v l) :
    Calls Tryz.prog 79 #[v, .func (.func 80) #[] #[]] w fun e w' => e = .returned (.bool (l.any lgP5)) ∧ ∃ d, w' = bw w d := by
  obtain ⟨ls, p, h1, h2, h3⟩ := pg_lift hv lgP5
  rw [← h2]
  have eI : ∀ args w, (callFunc 80 args).run Tryz.prog w = .ok (.enter 80 args) w := enters_of Tryz.func80 (by kernel_rfl) rfl
  refine pg_ContainsFunc 80 [] p v ls w h1 eI fun x hx d => ?_
  obtain ⟨t, _, ht, e⟩ := h3 x hx
  rw [e]
  exact (law50_large1 (P := P) x t (bw w d) ⟨ht.y, ht.m, ht.d, ht.ts.lay [.inr d]⟩).mono fun e w' ⟨a, b, c⟩ => ⟨a, _, c.trans (bw_bw _ _ _)⟩
set_option maxHeartbeats 2000000 in
theorem law50_large {P : Nat → Prop} (vp vs : Value) (lp : List PgV) (l : List StarV) (s : ByteArray) (w : World) (hp : PgsD P w vp lp) (hv : SlG stR w vs l) :
    Calls Tryz.prog 40 #[vp, vs, .string s] w (AnyB w) := by
  have eI : ∀ args w, (callFunc 84 args).run Tryz.prog w = .ok (.enter 84 args) w := enters_of Tryz.func84 (by kernel_rfl) rfl
  have HI := Lib.hid (fun L => st_ContainsFunc 84 [] (fun x => decide ((100 : Int) < (x.s.size : Int))) vs l (lay w L) (hv.lay L) eI (fun x _ d => (law50_large2 x (bw (lay w L) d)).mono fun e w' ⟨h1, d2, h2⟩ => ⟨h1, _, h2.trans (bw_bw _ _ _)⟩))
  have HP := Lib.hid (fun L => pgs_large50 vp lp (lay w L) (hp.lay L))
  generalize l.any (fun x => decide ((100 : Int) < (x.s.size : Int))) = y at *
  generalize lp.any lgP5 = z at *
  obtain ⟨a, c, rfl⟩ := hv.form
  obtain ⟨pa, pc, rfl⟩ := pgs_form hp
  generalize l.length = m at *
  generalize lp.length = n at *
  clear hv hp eI
  refine lay_start ?_
  go_enter Tryz.func40, Tryz.ntmps40
  go_wp2_with (first | (go_at_call 79; refine (HP.out _).mono ?_; rintro e w' ⟨rfl, d, rfl⟩) | (go_at_call 83; refine (HI.out _).mono ?_; rintro e w' ⟨rfl, d, rfl⟩))
  all_goals go_ret
  all_goals exact ⟨_, rfl, lay_ex _ _⟩
def Made50 (w : World) (vp vs : Value) (lp : List PgV) (ls : List StarV) (e : Ending) (w' : World) : Prop :=
  (e = .returned (.tuple #[.pointer none, .agg #[.slice none 0 0, .slice none 0 0]]) ∧ ∃ d, w' = bw w d) ∨
  (newE lp ls = 0 ∧ ∃ bk w1 d, e = .returned (.tuple #[.pointer (some ⟨bk, 0, none⟩), .agg #[vp, vs]]) ∧ w' = bw w d ∧ BkA w1 bk lp ls (bw w d))
theorem bw_far {w1 w2 : World} (hs : w2.heap.size = w1.heap.size) (d : Ext) {b : Nat} (h : w1.heap.size ≤ b) : (bw w2 d).heap[b]? = (bw w1 d).heap[b]? := by
  simp only [bw]
  rw [Array.getElem?_append_right h, Array.getElem?_append_right (by omega), hs]
theorem bka_swap {w1 w2 : World} {bk : Nat} {lp : List PgV} {ls : List StarV} {d : Ext} (hs : w2.heap.size = w1.heap.size) (h : BkA w1 bk lp ls (bw w1 d)) : BkA w2 bk lp ls (bw w2 d) := by
  obtain ⟨h0, vd, vp, vs, h1, h2, h3, h4, h5, h6⟩ := h
  have hz : (bw w1 d).heap.size ≤ (bw w2 d).heap.size := by simp [bw, hs]
  have hk : ∀ b, (w1.heap.size ≤ b ∧ b ≠ bk) → b < (bw w1 d).heap.size → (bw w2 d).heap[b]? = (bw w1 d).heap[b]? := fun b hb _ => bw_far hs d hb.1
  have hb := bw_far hs d h0
  refine ⟨by omega, vd, vp, vs, ⟨Nat.lt_of_lt_of_le h1.lt hz, (cell_keep hb).trans h1.c0, (cell_keep hb).trans h1.c1, (cell_keep hb).trans h1.c2⟩, ?_, ?_, ?_, ?_, ?_⟩
  · exact (LsP.keep (P := fun b => w1.heap.size ≤ b ∧ b ≠ bk) ⟨h2, h3⟩ hz hk).1
  · rw [hs]; exact h3
  · rw [hs]; exact h4.keep hz hk
  · exact slG_keep h5 h6 hz hk
  · rw [hs]; exact h6
set_option maxHeartbeats 2000000 in
theorem law50_made {P : Nat → Prop} (vp vs : Value) (lp : List PgV) (ls : List StarV) (s : ByteArray) (w : World) (hp : PgsD P w vp lp) (hP : ∀ b, P b → b < w.heap.size) (hv : SlG stR w vs ls) :
    Calls Tryz.prog 11 #[vp, vs, .string s] w (Made50 w vp vs lp ls) := by
  have HLa := Lib.hid (fun L => law50_large vp vs lp ls s (lay w L) (hp.lay L) (hv.lay L))
  have HNn := Lib.hid (fun L h => alm_New_no vp vs lp ls (lay w L) (hp.lay L) (fun b hb => Nat.lt_of_lt_of_le (hP b hb) (lay_extends w L).size) (hv.lay L) h)
  have HNy := Lib.hid (fun L h => alm_New_yes vp vs lp ls (lay w L) (hp.lay L) (fun b hb => Nat.lt_of_lt_of_le (hP b hb) (lay_extends w L).size) (hv.lay L) h)
  obtain ⟨a, c, rfl⟩ := hv.form
  obtain ⟨pa, pc, rfl⟩ := pgs_form hp
  generalize ls.length = m at *
  generalize lp.length = n at *
  clear hv hp hP
  refine lay_start ?_
  go_enter Tryz.func11, Tryz.ntmps11
  go_wp2_with fail
  refine (HLa.out _).mono ?_
  rintro e w' ⟨r, rfl, d, rfl⟩
  rw [lay_bw]
  cases r
  · go_wp2_with fail
    by_cases hE : newE lp ls = 0
    · refine (HNy.out _ hE).mono ?_
      rintro e w' ⟨bk, d3, rfl, rfl, hB⟩
      have HB := Lib.hid hB
      clear hB HNy HNn HLa
      rw [lay_bw] at HB ⊢
      go_wp2_with fail
      obtain ⟨z, hz⟩ := lay_ex w [.inr d3, .inr d, .inl (.cells #[.slice pa n pc, .slice a m c] 38 (0, 0))]
      refine bodyPost_ret (v := .tuple #[.pointer (some ⟨bk, 0, none⟩), .agg #[.slice pa n pc, .slice a m c]]) (by simp [results, Tryz.results11, go_sem]) rfl (.inr ⟨hE, bk, lay w [.inr d, .inl (.cells #[.slice pa n pc, .slice a m c] 38 (0, 0))], z, rfl, hz, ?_⟩)
      rw [← hz]
      refine bka_swap (w1 := lay w [.inr d, .inl (.cells #[.slice none 0 0, .slice none 0 0] 38 (0, 0))]) (d := d3) ?_ HB.out
      rw [lay_size, lay_size]
      rfl
    · have e1 : (newE lp ls != 0) = true := by simpa using hE
      have e2 : (newE lp ls == 0) = false := beq_eq_false_iff_ne.2 hE
      refine (HNn.out _ hE).mono ?_
      rintro e w' ⟨rfl, d3, rfl⟩
      generalize newE lp ls = NE at *
      go_wp2_with fail
      exact bodyPost_ret (v := .tuple #[.pointer none, .agg #[.slice none 0 0, .slice none 0 0]]) (by simp [results, Tryz.results11, go_sem]) rfl (.inl ⟨rfl, lay_ex _ _⟩)
  · go_wp2_with fail
    exact bodyPost_ret (v := .tuple #[.pointer none, .agg #[.slice none 0 0, .slice none 0 0]]) (by simp [results, Tryz.results11, go_sem]) rfl (.inl ⟨rfl, lay_ex _ _⟩)
end Go.Proofs.YthjfadfebhjhbaaGreat
/- The example of chapter 50: plain facts. -/
namespace Go.Proofs.YthjfadfebhjhbaaGreat
open Go.RowKit Go.Shelf

def vegH : StarV := ⟨vegaS, 0, 0, 1⟩
theorem vegH_cat : catB [vegH] = true := by
  refine catB_iff.2 ⟨by decide, fun i x hx => ?_⟩
  cases i with
  | zero =>
    simp only [List.getElem?_cons_zero, Option.some.injEq] at hx
    subst hx
    refine ⟨vega_name, by decide, ?_⟩
    show (if (vegaS.toList == vegaS.toList) then ((0 : Nat) : Int) else _) = _
    rw [if_pos (beq_self_eq_true _)]
  | succ i => simp at hx
theorem vegH_find : fndS [vegH] vegaS = ((0 : Nat) : Int) := by
  show (if (vegaS.toList == vegaS.toList) then ((0 : Nat) : Int) else _) = _
  rw [if_pos (beq_self_eq_true _)]
theorem vegH_first : [vegH].find? (fun x => nmB x.s vegaS) = some vegH := by
  have e : nmB vegH.s vegaS = true := by
    show (vegaS.toList == vegaS.toList) = true
    exact beq_self_eq_true _
  rw [List.find?_cons, e]
theorem vega_noA : isA vegaS = false := by unfold isA; rw [vega_list]; rfl
theorem vegH_new : newE [] [vegH] = 0 := by
  unfold newE
  have h1 : badP [] = false := rfl
  have h2 : twB [] [vegH] = false := by
    unfold twB
    rw [tkL_nil]
    show (false || ((isA vegaS || false) || false)) = false
    rw [vega_noA]
    rfl
  rw [if_neg (by simp), if_neg (by rw [h1, vegH_cat]; simp), if_neg (by intro h; exact h (fun i p q hi => by simp at hi)), if_neg (by rw [h2]; simp)]
theorem vegH_ok : NewOk [] [vegH] := newE_0 vegH_new
theorem vegH_sg : sgL 0 0 0 = 5998017 ∧ sgH 0 0 0 = 5998118 ∧ dcL 0 = -50 ∧ dcH 0 = 50 := by decide +kernel
theorem vegH_where : whR [] [vegH] vegaS 0 0 = (⟨5998017, 5998118, -50, 50, 0, 0, 0, 0⟩, 0) := by
  rw [whR_star (i := 0) (x := vegH) (by decide) (by decide) vega_noA vegH_find vegH_first]
  obtain ⟨e1, e2, e3, e4⟩ := vegH_sg
  show ((⟨sgL 0 0 0, sgH 0 0 0, dcL 0, dcH 0, 0, 0, 0, 0⟩ : GeoV), (0 : Int)) = _
  rw [e1, e2, e3, e4]
theorem vegH_lha {n l h : Int} (hv : validB n n = true) (e1 : turnLo (5998017 + turnLo n n) (5998118 + turnHi n n) = l) (e2 : turnHi (5998017 + turnLo n n) (5998118 + turnHi n n) = h) : lhaE [] [vegH] vegaS 0 0 n n = 0 ∧ lhaL [] [vegH] vegaS 0 0 n n = l ∧ lhaH [] [vegH] vegaS 0 0 n n = h := by
  have e : lhaE [] [vegH] vegaS 0 0 n n = 0 := lhaE_z.2 ⟨by decide, hv, by rw [vegH_where]⟩
  obtain ⟨f1, f2⟩ := lha_is e
  rw [vegH_where] at f1 f2
  exact ⟨e, f1.trans e1, f2.trans e2⟩
theorem vegH_up : abE [] [vegH] vegaS 0 0 0 0 (-5998017) (-5998017) = 0 ∧ abN [] [vegH] vegaS 0 0 0 0 (-5998017) (-5998017) = 1 := by
  obtain ⟨e, f, g⟩ := vegH_lha (n := -5998017) (l := 0) (h := 101) (by decide) (by decide) (by decide)
  have o := hz_ok (s := vegaS) (a := 0) (b := 0) (u := 0) (v := 0) vegH_ok (by decide) e
  have hE := o.asn
  have hA : abE [] [vegH] vegaS 0 0 0 0 (-5998017) (-5998017) = 0 := by unfold abE; rw [if_pos ⟨by decide, by decide⟩, e]
  refine ⟨hA, ?_⟩
  have hL : 1 ≤ hzL [] [vegH] vegaS 0 0 0 0 (-5998017) (-5998017) := by
    unfold hzL
    rw [if_pos e]
    unfold asL
    rw [if_pos hE]
    unfold hzS0
    rw [vegH_where, f, g]
    have k : bHi 1 ≤ altS0 0 0 (-50) 50 0 101 := by decide +kernel
    show 1 ≤ asnI (mx (altS0 0 0 (-50) 50 0 101) (-1073741824))
    exact asnI_ge (by decide) (by decide) (by rw [mx_eq]; omega)
  unfold abN sdI
  rw [if_pos hA, if_pos (by omega)]
theorem vegH_dn : abE [] [vegH] vegaS 0 0 0 0 4801983 4801983 = 0 ∧ abN [] [vegH] vegaS 0 0 0 0 4801983 4801983 = -1 := by
  obtain ⟨e, f, g⟩ := vegH_lha (n := 4801983) (l := 10800000) (h := 10800101) (by decide) (by decide) (by decide)
  have o := hz_ok (s := vegaS) (a := 0) (b := 0) (u := 0) (v := 0) vegH_ok (by decide) e
  have hE := o.asn
  have hA : abE [] [vegH] vegaS 0 0 0 0 4801983 4801983 = 0 := by unfold abE; rw [if_pos ⟨by decide, by decide⟩, e]
  refine ⟨hA, ?_⟩
  have hH : hzH [] [vegH] vegaS 0 0 0 0 4801983 4801983 ≤ -1 := by
    unfold hzH
    rw [if_pos e]
    unfold asH
    rw [if_pos hE]
    unfold hzS1
    rw [vegH_where, f, g]
    have k : altS1 0 0 (-50) 50 10800000 10800101 ≤ -(bHi 1) := by decide +kernel
    have k2 : 0 ≤ bHi 1 := by decide +kernel
    have := asnI_ge (v := -(mn (altS1 0 0 (-50) 50 10800000 10800101) 1073741824)) (n := 1) (by decide) (by decide) (by rw [mn_eq]; omega)
    show -(asnI (-(mn (altS1 0 0 (-50) 50 10800000 10800101) 1073741824))) ≤ -1
    omega
  have := o.le
  unfold abN sdI
  rw [if_pos hA, if_neg (by omega), if_pos (by omega)]
theorem pgsD_nil (P : Nat → Prop) (w : World) : PgsD P w (.slice none 0 0) [] := ⟨[], SlG.nil pgR w, (fun b o n c e _ => by cases e), rfl, fun i x p h => by simp at h⟩
theorem vegH_lit (w : World) (L : List (Obj ⊕ Ext)) : SlG stR (lay w (.inl (.cells #[.string vegaS, .int .i64 0, .int .i64 0, .int .i64 1] 117 (0, 0)) :: L)) (.slice (some ⟨posn w (shp L), 0, none⟩) 1 1) [vegH] :=
  (owG_lit stOk [vegH] rfl (by decide) (by intro x hx; rw [List.mem_singleton.1 hx]; exact ⟨by decide, by decide, by decide, by decide⟩)).sl stOk
end Go.Proofs.YthjfadfebhjhbaaGreat
/- The example of chapter 50 (awake). -/
namespace Go.Proofs.YthjfadfebhjhbaaGreat
open Go.RowKit Go.Shelf

def StarPost (w : World) (e : Ending) (w' : World) : Prop :=
  ∃ bk A c w1 d, e = .returned (.tuple #[.pointer (some ⟨bk, 0, none⟩), .agg #[.slice none 0 0, .slice A 1 c]]) ∧ w' = bw w d ∧ BkA w1 bk [] [vegH] (bw w d) ∧ SlG stR (bw w d) (.slice A 1 c) [vegH]
set_option maxHeartbeats 2000000 in
set_option maxRecDepth 100000 in
theorem law50_star (w : World) : Calls Tryz.prog 29 #[] w (StarPost w) := by
  refine lay_start ?_
  go_enter Tryz.func29, Tryz.ntmps29
  go_wp2_with fail
  have hS := vegH_lit w [.inl (.cells #[.slice none 0 0, .slice none 0 0] 38 (0, 0))]
  have HS := Lib.hid hS
  refine (alm_New_yes (P := fun _ => False) (.slice none 0 0) (.slice (some ⟨posn w [1], 0, none⟩) 1 1) [] [vegH] (lay w [.inl (.cells #[.string vegaS, .int .i64 0, .int .i64 0, .int .i64 1] 117 (0, 0)), .inl (.cells #[.slice none 0 0, .slice none 0 0] 38 (0, 0))]) (pgsD_nil _ _) (fun _ h => h.elim) hS vegH_new).mono ?_
  clear hS
  rintro e w' ⟨bk, d1, rfl, rfl, hB⟩
  rw [lay_bw] at hB ⊢
  have HB := Lib.hid hB
  clear hB
  go_wp2_with fail
  obtain ⟨z, hz⟩ := lay_ex w [.inr d1, .inl (.cells #[.string vegaS, .int .i64 0, .int .i64 0, .int .i64 1] 117 (0, 0)), .inl (.cells #[.slice none 0 0, .slice (some ⟨posn w [1], 0, none⟩) 1 1] 38 (0, 0))]
  refine bodyPost_ret (v := .tuple #[.pointer (some ⟨bk, 0, none⟩), .agg #[.slice none 0 0, .slice (some ⟨posn w [1], 0, none⟩) 1 1]]) (by simp [results, Tryz.results29, go_sem]) rfl ⟨bk, _, _, lay w [.inl (.cells #[.string vegaS, .int .i64 0, .int .i64 0, .int .i64 1] 117 (0, 0)), .inl (.cells #[.slice none 0 0, .slice (some ⟨posn w [1], 0, none⟩) 1 1] 38 (0, 0))], z, rfl, hz, ?_, ?_⟩
  · rw [← hz]
    refine bka_swap (w1 := lay w [.inl (.cells #[.string vegaS, .int .i64 0, .int .i64 0, .int .i64 1] 117 (0, 0)), .inl (.cells #[.slice none 0 0, .slice none 0 0] 38 (0, 0))]) (d := d1) ?_ HB.out
    rw [lay_size, lay_size]
    rfl
  · rw [← hz]
    exact slG_on (A := [.inr d1]) (vegH_lit w [.inl (.cells #[.slice none 0 0, .slice (some ⟨posn w [1], 0, none⟩) 1 1] 38 (0, 0))])
set_option maxHeartbeats 1000000 in
theorem law50_one (n : Int) (w : World) : Calls Tryz.prog 31 #[.int .i64 n] w fun e w' => e = .returned (.agg #[.int .i64 (n), .int .i64 (n)]) ∧ ∃ d, w' = bw w d := by
  refine lay_start ?_
  go_enter Tryz.func31, Tryz.ntmps31
  go_wp2
  exact bodyPost_ret (v := (.agg #[.int .i64 (n), .int .i64 (n)])) (by simp [results, Tryz.results31, go_sem]) rfl ⟨rfl, lay_ex _ _⟩
set_option maxHeartbeats 2000000 in
set_option maxRecDepth 100000 in
theorem law50_awake (w : World) : Calls Tryz.prog 8 #[] w fun e w' => e = .returned (.bool true) ∧ ∃ d, w' = bw w d := by
  refine lay_start ?_
  go_enter Tryz.func8, Tryz.ntmps8
  go_wp2_with fail
  refine (law50_star _).mono ?_
  rintro e w' ⟨bk, A, c, w1, d1, rfl, rfl, hB, hS⟩
  rw [lay_bw] at hB hS ⊢
  have HA1 := Lib.hid (fun L => made_Above hB vegH_ok vegaS 0 0 0 0 (-5998017) (-5998017) L)
  rw [vegH_up.1, vegH_up.2] at HA1
  have HA2 := Lib.hid (fun L => made_Above hB vegH_ok vegaS 0 0 0 0 4801983 4801983 L)
  rw [vegH_dn.1, vegH_dn.2] at HA2
  have HW := Lib.hid (fun L => ref17_Where (.slice none 0 0) (.slice A 1 c) [] [vegH] vegaS 0 0 (lay _ L) ((rfL_of (pgsD_nil (fun _ => False) _) hS vegH_ok).lay L))
  rw [vegH_where] at HW
  change Hid (∀ L, Calls Tryz.prog _ _ _ fun e w' => e = .returned (.tuple #[(.agg #[.int .i64 (5998017), .int .i64 (5998118), .int .i64 (-50), .int .i64 (50), .int .i64 (0), .int .i64 (0), .int .i64 (0), .int .i64 (0)]), .int .i64 0]) ∧ ∃ d, w' = bw _ d) at HW
  simp only [← lay_appG] at HA1 HA2 HW
  clear hB hS
  go_wp2_with fail
  refine (HW.out [_]).mono ?_
  rintro e w' ⟨rfl, d2, rfl⟩
  rw [lay_bw]
  go_wp2_with fail
  clear HW
  go_loopw [5] (fun v5 wr => v5 = .int .i64 (-5998017) ∧ wr = lay w [.inl (.cells #[.int .i64 5998017, .int .i64 5998118, .int .i64 (-50), .int .i64 50, .int .i64 0, .int .i64 0, .int .i64 0, .int .i64 0] 76 (0, 0)), .inr d2, .inl (.cells #[.slice none 0 0, .slice A 1 c] 38 (0, 0)), .inr d1]) (fun _ _ => 0)
  case atStart => exact ⟨rfl, rfl⟩
  case round =>
    obtain ⟨rfl, rfl⟩ := hrel
    go_wp2_with (go_at_call 31; refine (law50_one _ _).mono ?_; rintro e w' ⟨rfl, d3, rfl⟩; rw [lay_bw])
    refine (HA1.out [_, _, _, _]).mono ?_
    rintro e w' ⟨rfl, d4, rfl⟩
    rw [lay_bw]
    go_wp2_with (go_at_call 31; refine (law50_one _ _).mono ?_; rintro e w' ⟨rfl, d5, rfl⟩; rw [lay_bw])
    refine (HA2.out [_, _, _, _, _, _]).mono ?_
    rintro e w' ⟨rfl, d6, rfl⟩
    rw [lay_bw]
    go_wp2_with fail
    go_ret
    exact ⟨rfl, lay_ex _ _⟩
end Go.Proofs.YthjfadfebhjhbaaGreat

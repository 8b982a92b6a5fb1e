/- Contracts and plain laws, several texts in one: Nr3; Dig; ChC; Cln; Sta4; Nw0; Bod -/
import Derived.Test.YtnnmfdeeicpdlaaGreatProg
import Derived.WalkKit
import Derived.WalkSpells
import Derived.WalkLawsBesides
import Derived.Lib.Hide
import Derived.BigQuiet
import Derived.Test.YtnnmfdeeicpdlaaGreatHAA
import Derived.Test.YtnnmfdeeicpdlaaGreatHAC
import Derived.Test.YtnnmfdeeicpdlaaGreatHAD
import Derived.Test.YtnnmfdeeicpdlaaGreatHAE
import Derived.Test.YtnnmfdeeicpdlaaGreatHAR
import Derived.Test.YtnnmfdeeicpdlaaGreatHAY
import Derived.Test.YtnnmfdeeicpdlaaGreatHAZ
import Derived.Test.YtnnmfdeeicpdlaaGreatHBB
import Derived.Test.YtnnmfdeeicpdlaaGreatHBC
import Derived.Test.YtnnmfdeeicpdlaaGreatHBF
import Derived.Test.YtnnmfdeeicpdlaaGreatHBG
/- The reference's limbs: series. -/
namespace Go.Proofs.YtnnmfdeeicpdlaaGreat
open Go.RowKit

theorem altQ_in {M sq : Nat} (hM : 0 < M) (hsq : sq ≤ M) : ∀ {f t d : Nat}, 1 ≤ d → 0 ≤ altQ M sq f t d ∧ altQ M sq f t d ≤ (t : Int)
  | 0, t, d, _ => ⟨Int.le_refl _, Int.natCast_nonneg t⟩
  | f + 1, t, d, hd => by
    have hn := nexQ_le (t := t) hM hsq hd
    obtain ⟨a, b⟩ := altQ_in hM hsq (f := f) (t := nexQ M sq t d) (d := d + 2) (by omega)
    unfold altQ
    omega
def altR (M s t d : Nat) : Int := altQ M s 200 t d
def p200N : Nat := 2 ^ 200
theorem altR_zero {M s d : Nat} : altR M s 0 d = 0 := altQ_zero
theorem altR_next {M s t d : Nat} (hM : 0 < M) (hs : s ≤ M) (hd : 1 ≤ d) (ht : t < p200N) : altR M s t d = (t : Int) - altR M s (nexQ M s t d) (d + 2) := altQ_next hM hs hd ht
theorem altR_in {M s t d : Nat} (hM : 0 < M) (hs : s ≤ M) (hd : 1 ≤ d) : 0 ≤ altR M s t d ∧ altR M s t d ≤ (t : Int) := altQ_in hM hs hd
structure SerJ (M s t0 d0 i t : Nat) (p q : Int) : Prop where
  inv : p - q + (if i % 2 = 0 then altR M s t (d0 + 2 * i) else -(altR M s t (d0 + 2 * i))) = altR M s t0 d0
  small : t * 2 ^ i ≤ t0
theorem SerJ.start (M s t0 d0 : Nat) : SerJ M s t0 d0 0 t0 0 0 := ⟨by simp, by simp⟩
section
variable {M s t0 d0 i t : Nat} {p q : Int}
theorem SerJ.le (h : SerJ M s t0 d0 i t p q) : t ≤ t0 := by
  have h1 := h.small
  have : 1 ≤ 2 ^ i := Nat.one_le_two_pow
  have := Nat.mul_le_mul_left t this
  omega
theorem SerJ.few (h : SerJ M s t0 d0 i t p q) (ht : t ≠ 0) (h0 : t0 < p200N) : i < 200 := by
  have h1 := h.small
  rcases Nat.lt_or_ge i 200 with c | c
  · exact c
  · have h2 : p200N ≤ 2 ^ i := Nat.pow_le_pow_right (by decide) c
    have h3 := Nat.mul_le_mul_right (2 ^ i) (show 1 ≤ t by omega)
    generalize 2 ^ i = x at *
    generalize p200N = y at *
    omega
theorem ser_ar1 {p q t C X : Int} (h : p - q + (t - X) = C) : p + t - q + -X = C := by omega
theorem ser_ar2 {p q t C X : Int} (h : p - q + -(t - X) = C) : p - (q + t) + X = C := by omega
theorem ser_ar3 {p q C : Int} (h : p - q + 0 = C) (hc : 0 ≤ C) : p - q = C ∧ q ≤ p := by omega
theorem SerJ.step (hM : 0 < M) (hs : s ≤ M) (hd : 1 ≤ d0) (h : SerJ M s t0 d0 i t p q) (h0 : t0 < p200N) :
    (i % 2 = 0 → SerJ M s t0 d0 (i + 1) (nexQ M s t (d0 + 2 * i)) (p + t) q) ∧ (i % 2 = 1 → SerJ M s t0 d0 (i + 1) (nexQ M s t (d0 + 2 * i)) p (q + t)) := by
  have hl := h.le
  have hn := altR_next (t := t) (d := d0 + 2 * i) hM hs (by omega) (Nat.lt_of_le_of_lt hl h0)
  have hh := nexQ_le (t := t) (d := d0 + 2 * i) hM hs (by omega)
  have hsm : nexQ M s t (d0 + 2 * i) * 2 ^ (i + 1) ≤ t0 := by
    have h1 := Nat.mul_le_mul_right (2 ^ i) hh
    have e : nexQ M s t (d0 + 2 * i) * 2 ^ (i + 1) = nexQ M s t (d0 + 2 * i) * 2 * 2 ^ i := by rw [Nat.pow_succ, Nat.mul_comm (2 ^ i) 2, ← Nat.mul_assoc]
    rw [e]
    exact Nat.le_trans h1 h.small
  have hi := h.inv
  rw [hn] at hi
  rw [show d0 + 2 * i + 2 = d0 + 2 * (i + 1) by omega] at hi
  constructor
  · intro c
    rw [if_pos c] at hi
    exact ⟨by rw [if_neg (by omega)]; exact ser_ar1 hi, hsm⟩
  · intro c
    rw [if_neg (by omega)] at hi
    exact ⟨by rw [if_pos (by omega)]; exact ser_ar2 hi, hsm⟩
theorem SerJ.done (hM : 0 < M) (hs : s ≤ M) (hd : 1 ≤ d0) (h : SerJ M s t0 d0 i 0 p q) : p - q = altR M s t0 d0 ∧ q ≤ p := by
  have hi := h.inv
  rw [altR_zero] at hi
  have h1 := (altR_in hM hs (t := t0) hd).1
  have e : (if i % 2 = 0 then (0 : Int) else -0) = 0 := by split <;> rfl
  rw [e] at hi
  exact ser_ar3 hi h1
end
theorem can_lenK {l : List Int} {k : Nat} (h : Can l) (hv : valD l ≤ dB ^ k) : l.length ≤ k + 1 := by
  rcases Nat.lt_or_ge (k + 1) l.length with c | c
  · have h1 := h.low (by intro e; rw [e] at c; simp at c)
    have h2 := dB_pow_le (a := k + 1) (b := l.length - 1) (by omega)
    have h3 := dB_pow_pos k
    have h4 : dB ^ (k + 1) = dB ^ k * dB := Int.pow_succ dB k
    have h5 : dB ^ k * 2 ≤ dB ^ k * dB := Int.mul_le_mul_of_nonneg_left (by decide) (Int.le_of_lt h3)
    omega
  · exact c
theorem nexQ_val {M s t d : Nat} {k : Nat} (hM : (M : Int) = dB ^ k) : (t : Int) * (s : Int) / dB ^ k / ((d : Int) * ((d : Int) + 1)) = ((nexQ M s t d : Nat) : Int) := by
  rw [← hM]
  unfold nexQ
  push_cast
  rfl
structure SerW (M s t0 d0 i t : Nat) (w : World) (v9 v10 v11 : Value) (p q : Int) (P Q T : List Int) : Prop where
  r9 : Sl w v9 P
  r10 : Sl w v10 Q
  r11 : Sl w v11 T
  c9 : Can P
  c10 : Can Q
  c11 : Can T
  e9 : valD P = p
  e10 : valD Q = q
  e11 : valD T = (t : Int)
  l9 : P.length ≤ 13 + i
  l10 : Q.length ≤ 13 + i
  i2 : i ≤ 200
  j : SerJ M s t0 d0 i t p q
theorem sl_form {w : World} {v : Value} {l : List Int} (h : Sl w v l) : ∃ a c, v = .slice a l.length c := by
  obtain ⟨a, c, h1, -⟩ := h
  exact ⟨a, c, h1⟩
set_option maxHeartbeats 8000000 in
set_option maxRecDepth 100000 in
theorem r6_series (vf vs : Value) (first sq : List Int) (d0 k M t0 s : Nat) (w : World) (hk : k ≤ 4) (hMk : (M : Int) = dB ^ k) (hM2 : M ≤ 2 ^ 112) (hf : Sl w vf first) (hs : Sl w vs sq) (cf : Can first) (cs : Can sq) (ht0 : valD first = (t0 : Int)) (hss : valD sq = (s : Int)) (h1 : t0 ≤ M) (h2 : s ≤ M) (hd1 : 1 ≤ d0) (hd2 : d0 ≤ 2) :
    Calls Tryz.prog 352 #[vf, vs, .int .i64 (d0 : Int), .int .i64 (k : Int)] w (RwD w fun l => Can l ∧ valD l = altR M s t0 d0 ∧ l.length ≤ 300) := by
  have hM0 : 0 < M := by have := dB_pow_pos k; omega
  have p200 : t0 < p200N := Nat.lt_of_le_of_lt (Nat.le_trans h1 hM2) (Nat.pow_lt_pow_right (by decide) (by decide))
  have hsl := can_lenK (k := k) cs (by rw [hss, ← hMk]; omega)
  have HSQ := Lib.hid (And.intro hs (And.intro cs (And.intro hss (And.intro hsl hk))))
  have H0 : Hid (SerW M s t0 d0 0 t0 (lay w [.inr (noExt w)]) (.slice none 0 0) (.slice none 0 0) vf 0 0 [] [] first) := Lib.hid
    ⟨Sl.nil _, Sl.nil _, hf.lay _, Can.nil, Can.nil, cf, rfl, rfl, ht0, by simp, by simp, Nat.zero_le _, SerJ.start M s t0 d0⟩
  have HSTEP := Lib.hid (fun i t p q (h : SerJ M s t0 d0 i t p q) => h.step hM0 h2 hd1 p200)
  have HDN := Lib.hid (fun i p q (h : SerJ M s t0 d0 i 0 p q) => h.done hM0 h2 hd1)
  have HLE := Lib.hid (fun i t p q (h : SerJ M s t0 d0 i t p q) => Nat.le_trans h.le h1)
  have HFEW := Lib.hid (fun i t p q (h : SerJ M s t0 d0 i t p q) (c : t ≠ 0) => h.few c p200)
  have HNX := Lib.hid (fun t d => nexQ_val (s := s) (t := t) (d := d) hMk)
  have HMK := Lib.hid hMk
  clear hs cs hss hsl cf ht0 h1 h2 hM0 p200 hM2 hMk
  refine lay_start ?_
  go_enter Tryz.func352, Tryz.ntmps352
  go_wp2_with fail
  go_loopw [2, 9, 10, 11, 12] (fun v2 v9 v10 v11 v12 wr => ∃ (i t : Nat) (p q : Int) (P Q T : List Int) (e : Ext), v12 = .int .i64 (i : Int) ∧ v2 = .int .i64 ((d0 + 2 * i : Nat) : Int) ∧ wr = lay w [.inr e] ∧ SerW M s t0 d0 i t (lay w [.inr e]) v9 v10 v11 p q P Q T) (fun _ _ _ _ v12 _ => 200 - (intOf v12).toNat)
  case atStart => exact ⟨0, t0, 0, 0, [], [], first, noExt _, rfl, rfl, (bw_noExt _).symm, H0.out⟩
  case round =>
    obtain ⟨i, t, p, q, P, Q, T, e, rfl, rfl, rfl, hW⟩ := hrel
    obtain ⟨a9, c9, rfl⟩ := sl_form hW.r9
    obtain ⟨a10, c10, rfl⟩ := sl_form hW.r10
    obtain ⟨a11, c11, rfl⟩ := sl_form hW.r11
    have HW := Lib.hid hW
    by_cases ht : t = 0
    · subst ht
      have hT : T = [] := hW.c11.zero (by rw [hW.e11]; rfl)
      subst hT
      obtain ⟨hD, hq⟩ := HDN.out i p q hW.j
      have HD := Lib.hid hD
      have HQ := Lib.hid hq
      have HL := Lib.hid (fun W (h9 : Sl W (.slice a9 P.length c9) P) (h10 : Sl W (.slice a10 Q.length c10) Q) (la : P.length ≤ 1000000) (hv : valD Q ≤ valD P) => dg_Less _ _ P Q W h9 h10 HW.out.c9 HW.out.c10 la hv)
      have hlP : P.length ≤ 1000000 := by have := hW.l9; have := hW.i2; omega
      have HLP := Lib.hid hlP
      clear hq hD hW hlP
      go_wp2_with fail
      refine (HL.out _ HW.out.r9 HW.out.r10 HLP.out (by rw [HW.out.e9, HW.out.e10]; exact HQ.out)).mono ?_
      rintro e' w' ⟨R, v, d1, ⟨rc, rv, rl⟩, rfl, rfl, hR⟩
      rw [lay_bw] at hR ⊢
      have HR := Lib.hid (And.intro hR (And.intro rc (And.intro rv rl)))
      clear hR rc rv rl
      go_wp2_with fail
      go_ret
      obtain ⟨y, hy⟩ := lay_ex w [.inr d1, .inr e]
      refine ⟨R, _, y, ⟨HR.out.2.1, by rw [HR.out.2.2.1, HW.out.e9, HW.out.e10]; exact HD.out, by have := HR.out.2.2.2; have := HW.out.l9; have := HW.out.i2; omega⟩, rfl, hy, ?_⟩
      rw [← hy]
      exact HR.out.1.le (lay_below (w := w) (A := [.inr e]) (B := [])).size
    · have htl : 0 < T.length := List.length_pos_iff.2 (by
        intro h
        have := hW.e11
        rw [h] at this
        exact ht (by have h0 : valD [] = 0 := rfl; omega))
      have hi := HFEW.out i t p q hW.j ht
      have hTl := can_lenK (k := k) hW.c11 (by rw [hW.e11, ← HMK.out]; have := HLE.out i t p q hW.j; omega)
      obtain ⟨D, hD⟩ : ∃ D, d0 + 2 * i = D := ⟨_, rfl⟩
      obtain ⟨hS0, hS1⟩ := HSTEP.out i t p q hW.j
      have HS01 := Lib.hid (And.intro hS0 hS1)
      have hnx := HNX.out t D
      rw [hD] at hS0 hS1 HS01 ⊢
      have kd1 : IntKind.i64.wrap ((D : Int) + 1) = (D : Int) + 1 := IntWalk.i64_in _ (by omega)
      have kd2 : IntKind.i64.wrap ((D : Int) + 2) = (D : Int) + 2 := IntWalk.i64_in _ (by omega)
      have ki : IntKind.i64.wrap ((i : Int) + 1) = (i : Int) + 1 := IntWalk.i64_in _ (by omega)
      obtain ⟨E, hE⟩ : ∃ E : Int, (D : Int) * ((D : Int) + 1) = E := ⟨_, rfl⟩
      have hE1 : 1 ≤ E ∧ E ≤ 268435456 := by
        have m1 := Int.mul_le_mul (show (1 : Int) ≤ (D : Int) by omega) (show (1 : Int) ≤ (D : Int) + 1 by omega) (by decide) (by omega)
        have m2 := Int.mul_le_mul (show (D : Int) ≤ 402 by omega) (show (D : Int) + 1 ≤ 403 by omega) (by omega) (by decide)
        omega
      have kE : IntKind.i64.wrap E = E := IntWalk.i64_in _ (by omega)
      rw [hE] at hnx
      have HX := Lib.hid (And.intro hnx (And.intro hTl (And.intro hi hD)))
      have HSum9 := Lib.hid (fun W (h9 : Sl W (.slice a9 P.length c9) P) (h11 : Sl W (.slice a11 T.length c11) T) => dg_Sum _ _ P T W h9 h11 HW.out.c9 HW.out.c11 (by have := HW.out.l9; omega) (by have := HX.out.2.1; have := HSQ.out.2.2.2.2; omega))
      have HSum10 := Lib.hid (fun W (h9 : Sl W (.slice a10 Q.length c10) Q) (h11 : Sl W (.slice a11 T.length c11) T) => dg_Sum _ _ Q T W h9 h11 HW.out.c10 HW.out.c11 (by have := HW.out.l10; omega) (by have := HX.out.2.1; have := HSQ.out.2.2.2.2; omega))
      have HTi := Lib.hid (fun W (h11 : Sl W (.slice a11 T.length c11) T) (hq : Sl W vs sq) => dg_Times _ _ T sq W h11 hq HW.out.c11.1 HSQ.out.2.1.1 (by have := HX.out.2.1; have := HSQ.out.2.2.2.2; omega) (by have := HSQ.out.2.2.2.1; have := HSQ.out.2.2.2.2; omega))
      have HDr := Lib.hid (fun W v l (h : Sl W v l) => r6_Drop v l k W h)
      have HPa := Lib.hid (fun W v l (h : Sl W v l) (c : Dg l) (la : l.length ≤ 100000) => r6_Part v l E W h c hE1.1 hE1.2 la)
      obtain ⟨tl, htl2⟩ : ∃ n, T.length = n := ⟨_, rfl⟩
      rw [htl2] at htl HW HSum9 HSum10 HTi hTl ⊢
      have x1 : (0 : Int) < (tl : Int) := by omega
      have x0 : (0 : Int) ≤ (i : Int) := by omega
      have HTL := Lib.hid htl2
      clear hS0 hS1 hnx hTl hE1 hW htl2
      have c := Nat.mod_two_eq_zero_or_one i
      rcases c with c | c
      · have mA : (i : Int) % 2 = 0 := by omega
        have mB : (i : Int).tmod 2 = 0 := by rw [Int.tmod_eq_emod_of_nonneg x0]; exact mA
        have HC := Lib.hid c
        clear c
        go_wp2_with fail
        refine (HSum9.out _ HW.out.r9 HW.out.r11).mono ?_
        rintro e' w' ⟨P2, v2, d1, ⟨pc, pv, pl⟩, rfl, rfl, hP⟩
        rw [lay_bw] at hP ⊢
        have HP := Lib.hid (And.intro hP.sl (And.intro pc (And.intro pv pl)))
        clear hP pc pv pl
        go_wp2_with fail
        refine (HTi.out _ (sl_on (A := [_]) HW.out.r11) (HSQ.out.1.lay _)).mono ?_
        rintro e' w' ⟨X, vx, d2, ⟨xc, xv, xl⟩, rfl, rfl, hX⟩
        rw [lay_bw] at hX ⊢
        have HXX := Lib.hid (And.intro hX.sl (And.intro xc (And.intro xv xl)))
        clear hX xc xv xl
        go_wp2_with fail
        refine (HDr.out _ _ _ HXX.out.1).mono ?_
        rintro e' w' ⟨vy, d3, rfl, rfl, hY⟩
        rw [lay_bw] at hY ⊢
        have HY := Lib.hid hY
        clear hY
        go_wp2_with fail
        refine (HPa.out _ _ _ HY.out (HXX.out.2.1.1.drop k) (by rw [List.length_drop]; have := HXX.out.2.2.2; have := HX.out.2.1; have := HTL.out; have := HSQ.out.2.2.2.1; have := HSQ.out.2.2.2.2; omega)).mono ?_
        rintro e' w' ⟨T2, v11, d4, ⟨tc, tv, tl2⟩, rfl, rfl, hT⟩
        rw [lay_bw] at hT ⊢
        have HT := Lib.hid (And.intro hT.sl (And.intro tc (show valD T2 = ((nexQ M s t D : Nat) : Int) by rw [tv, drop_val HXX.out.2.1.1, HXX.out.2.2.1, HW.out.e11, HSQ.out.2.2.1]; exact HX.out.1)))
        clear hT tc tv tl2
        go_wp2_with fail
        go_roundw
        obtain ⟨y, hy⟩ := lay_ex w [.inr d4, .inr d3, .inr d2, .inr d1, .inr e]
        case rel =>
          refine ⟨i + 1, nexQ M s t D, p + t, q, P2, Q, T2, y, by go_num, by have := HX.out.2.2.2; exact congrArg _ (by omega), hy, ?_⟩
          rw [show lay w [.inr y] = _ from hy.symm]
          exact ⟨HP.out.1.ext (lay_below (A := [.inr d4, .inr d3, .inr d2])), HW.out.r10.ext (lay_below (A := [.inr d4, .inr d3, .inr d2, .inr d1])), HT.out.1, HP.out.2.1, HW.out.c10, HT.out.2.1, by rw [HP.out.2.2.1, HW.out.e9, HW.out.e11], HW.out.e10, HT.out.2.2, by have := HP.out.2.2.2; have := HW.out.l9; have := HTL.out; have := HX.out.2.1; have := HSQ.out.2.2.2.2; omega, by have := HW.out.l10; omega, HX.out.2.2.1, HS01.out.1 HC.out⟩
        case measure => have := HX.out.2.2.1; simp [intOf]; omega
      · have mA : (i : Int) % 2 = 1 := by omega
        have mB : (i : Int).tmod 2 = 1 := by rw [Int.tmod_eq_emod_of_nonneg x0]; exact mA
        have HC := Lib.hid c
        clear c
        go_wp2_with fail
        refine (HSum10.out _ HW.out.r10 HW.out.r11).mono ?_
        rintro e' w' ⟨P2, v2, d1, ⟨pc, pv, pl⟩, rfl, rfl, hP⟩
        rw [lay_bw] at hP ⊢
        have HP := Lib.hid (And.intro hP.sl (And.intro pc (And.intro pv pl)))
        clear hP pc pv pl
        go_wp2_with fail
        refine (HTi.out _ (sl_on (A := [_]) HW.out.r11) (HSQ.out.1.lay _)).mono ?_
        rintro e' w' ⟨X, vx, d2, ⟨xc, xv, xl⟩, rfl, rfl, hX⟩
        rw [lay_bw] at hX ⊢
        have HXX := Lib.hid (And.intro hX.sl (And.intro xc (And.intro xv xl)))
        clear hX xc xv xl
        go_wp2_with fail
        refine (HDr.out _ _ _ HXX.out.1).mono ?_
        rintro e' w' ⟨vy, d3, rfl, rfl, hY⟩
        rw [lay_bw] at hY ⊢
        have HY := Lib.hid hY
        clear hY
        go_wp2_with fail
        refine (HPa.out _ _ _ HY.out (HXX.out.2.1.1.drop k) (by rw [List.length_drop]; have := HXX.out.2.2.2; have := HX.out.2.1; have := HTL.out; have := HSQ.out.2.2.2.1; have := HSQ.out.2.2.2.2; omega)).mono ?_
        rintro e' w' ⟨T2, v11, d4, ⟨tc, tv, tl2⟩, rfl, rfl, hT⟩
        rw [lay_bw] at hT ⊢
        have HT := Lib.hid (And.intro hT.sl (And.intro tc (show valD T2 = ((nexQ M s t D : Nat) : Int) by rw [tv, drop_val HXX.out.2.1.1, HXX.out.2.2.1, HW.out.e11, HSQ.out.2.2.1]; exact HX.out.1)))
        clear hT tc tv tl2
        go_wp2_with fail
        go_roundw
        obtain ⟨y, hy⟩ := lay_ex w [.inr d4, .inr d3, .inr d2, .inr d1, .inr e]
        case rel =>
          refine ⟨i + 1, nexQ M s t D, p, q + t, P, P2, T2, y, by go_num, by have := HX.out.2.2.2; exact congrArg _ (by omega), hy, ?_⟩
          rw [show lay w [.inr y] = _ from hy.symm]
          exact ⟨HW.out.r9.ext (lay_below (A := [.inr d4, .inr d3, .inr d2, .inr d1])), HP.out.1.ext (lay_below (A := [.inr d4, .inr d3, .inr d2])), HT.out.1, HW.out.c9, HP.out.2.1, HT.out.2.1, HW.out.e9, by rw [HP.out.2.2.1, HW.out.e10, HW.out.e11], HT.out.2.2, by have := HW.out.l9; omega, by have := HP.out.2.2.2; have := HW.out.l10; have := HTL.out; have := HX.out.2.1; have := HSQ.out.2.2.2.2; omega, HX.out.2.2.1, HS01.out.2 HC.out⟩
        case measure => have := HX.out.2.2.1; simp [intOf]; omega
end Go.Proofs.YtnnmfdeeicpdlaaGreat
/- The reference's numbers of digits: OfInt, Down. -/
namespace Go.Proofs.YtnnmfdeeicpdlaaGreat
open Go.RowKit

theorem can_pow {l : List Int} {k : Nat} (h : Can l) (hv : valD l < dB ^ k) : l.length ≤ k := by
  rcases Nat.lt_or_ge k l.length with h1 | h1
  · have h2 := h.low (by rintro rfl; simp at h1)
    have h3 := dB_pow_le (a := k) (b := l.length - 1) (by omega)
    omega
  · exact h1
theorem size_swap {w : World} {T : List (Obj ⊕ Ext)} (o o' : Obj) : (lay w (.inl o :: T)).heap.size = (lay w (.inl o' :: T)).heap.size := by
  show (World.alloc _ o).heap.size = (World.alloc _ o').heap.size
  rw [World.size_alloc, World.size_alloc]
theorem ow_swap2 {w : World} {T : List (Obj ⊕ Ext)} {o1 o2 : Obj} (o1' o2' : Obj) {e : Ext} {base : Nat} {v : Value} {l : List Int} (hb : (Go.Proofs.YtnnmfdeeicpdlaaGreat.lay w (.inl o2 :: T)).heap.size < base)
    (h : Ow (Go.Proofs.YtnnmfdeeicpdlaaGreat.lay w (.inr e :: .inl o1 :: .inl o2 :: T)) base v l) : Ow (Go.Proofs.YtnnmfdeeicpdlaaGreat.lay w (.inr e :: .inl o1' :: .inl o2' :: T)) base v l := by
  have hb2 : (Go.Proofs.YtnnmfdeeicpdlaaGreat.lay w T).heap.size + 1 < base := by
    have : (Go.Proofs.YtnnmfdeeicpdlaaGreat.lay w (.inl o2 :: T)).heap.size = (Go.Proofs.YtnnmfdeeicpdlaaGreat.lay w T).heap.size + 1 := World.size_alloc _ _
    omega
  refine ⟨⟨h.1.1, h.1.2.imp id fun ⟨g, cap, cur, h1, h2, h3, h4⟩ => ⟨g, cap, cur, h1, h2, ?_, h4⟩⟩, h.2⟩
  rw [← h3]
  show (((Go.Proofs.YtnnmfdeeicpdlaaGreat.lay w T).heap.push o2').push o1' ++ e.blocks)[g]? = (((Go.Proofs.YtnnmfdeeicpdlaaGreat.lay w T).heap.push o2).push o1 ++ e.blocks)[g]?
  rw [Array.getElem?_append, Array.getElem?_append, Array.size_push, Array.size_push, Array.size_push, Array.size_push]
  rw [if_neg (by omega), if_neg (by omega)]
theorem dB3 : dB ^ 3 = 19342813113834066795298816 := by decide
theorem OfI.room {z m : Int} {i : Nat} {out : List Int} (h : OfI z i out m) (hz : -9223372036854775808 ≤ z ∧ z ≤ 9223372036854775807) : m.natAbs ≤ z.natAbs ∧ (m ≠ 0 → i ≤ 2) := by
  have h1 := (valD_bd h.dg).1
  have h2 := h.val
  have h3 := dB_pow_pos i
  have h4 : 1 * (m.natAbs : Int) ≤ dB ^ i * (m.natAbs : Int) := Int.mul_le_mul_of_nonneg_right h3 (by omega)
  refine ⟨by omega, fun hm => ?_⟩
  have h5 : dB ^ i * 1 ≤ dB ^ i * (m.natAbs : Int) := Int.mul_le_mul_of_nonneg_left (by omega) (Int.le_of_lt h3)
  rcases Nat.lt_or_ge 2 i with h6 | h6
  · have h7 := dB_pow_le (a := 3) (b := i) h6
    rw [dB3] at h7
    omega
  · exact h6
theorem OfI.len3 {z : Int} {i : Nat} {out : List Int} (h : OfI z i out 0) (hz : -9223372036854775808 ≤ z ∧ z ≤ 9223372036854775807) : out.length ≤ 3 := by
  refine can_pow (h.can rfl) ?_
  have h2 := h.val
  rw [dB3]
  simp at h2
  omega
theorem Ow.form0 {w : World} {base : Nat} {v : Value} {l : List Int} (h : Ow w base v l) : ∃ a n cap, v = .slice a n cap := by obtain ⟨a, c, e⟩ := h.form; exact ⟨a, _, c, e⟩
theorem Ow.base {w : World} {b b' : Nat} {v : Value} {l : List Int} (h : Ow w b v l) (e : b = b') : Ow w b' v l := e ▸ h
set_option maxHeartbeats 2000000 in
set_option maxRecDepth 100000 in
theorem dg_OfInt (z : Int) (w : World) (hz : -9223372036854775808 ≤ z ∧ z ≤ 9223372036854775807) :
    Calls Tryz.prog 296 #[.int .i64 z] w (NmPO w z 3) := by
  obtain ⟨g, hg⟩ : ∃ g, decide (z < 0) = g := ⟨_, rfl⟩
  have HST := Lib.hid (OfI.start z)
  have HDN := Lib.hid (fun i out (h : OfI z i out 0) => h.done)
  rw [hg] at HDN
  have HZ := Lib.hid hz
  clear hz
  refine lay_start ?_
  go_enter Tryz.func296, Tryz.ntmps296
  go_wp2_with fail
  go_loopw [0] (fun v0 wr => ∃ (i : Nat) (m : Int) (A : Option Addr) (n c : Nat) (out : List Int) (dd : Ext), v0 = .int .i64 m ∧ wr = lay w [.inr dd, .inl (.cells #[.slice A n c, .bool g] 276 (0, 0)), .inl (.cells #[.slice none 0 0, .bool false] 276 (0, 0))] ∧ Ow (lay w [.inr dd, .inl (.cells #[.slice A n c, .bool g] 276 (0, 0)), .inl (.cells #[.slice none 0 0, .bool false] 276 (0, 0))]) (lay w [.inl (.cells #[.slice A n c, .bool g] 276 (0, 0)), .inl (.cells #[.slice none 0 0, .bool false] 276 (0, 0))]).heap.size (.slice A n c) out ∧ OfI z i out m) (fun v0 _ => (intOf v0).natAbs)
  case atStart => exact ⟨0, z, none, 0, 0, [], noExt _, rfl, (bw_noExt _).symm, Ow.nil _ _, HST.out⟩
  case round =>
    obtain ⟨i, m, A, n, c, out, dd, rfl, rfl, hO, hI⟩ := hrel
    have HO := Lib.hid (And.intro hO hI)
    have hrm := hI.room HZ.out
    have hzz := HZ.out
    clear hO hI
    by_cases hm0 : m = 0
    · subst hm0
      have HD := Lib.hid (HDN.out i out HO.out.2)
      have HL := Lib.hid (HO.out.2.len3 HZ.out)
      obtain ⟨n', c', he⟩ := HO.out.1.form
      have hn : n = out.length := by cases he; rfl
      have HN := Lib.hid hn
      clear hrm hzz he hn
      go_wp2_with fail
      refine bodyPost_ret (v := .agg #[.slice A n c, .bool g]) (by simp [results, Tryz.results296, go_sem]) rfl ?_
      obtain ⟨y, hy⟩ := lay_ex w [.inr dd, .inl (.cells #[.slice A n c, .bool g] 276 (0, 0)), .inl (.cells #[.slice A n c, .bool g] 276 (0, 0))]
      refine ⟨_, y, rfl, hy, A, c, out, g, by rw [HN.out], ?_, HD.out, HL.out⟩
      rw [← hy, ← HN.out]
      exact (ow_swap2 (.cells #[.slice A n c, .bool g] 276 (0, 0)) (.cells #[.slice A n c, .bool g] 276 (0, 0)) (lay_lt w _ _) HO.out.1).le (lay_extends w _).size
    · have hi2 := hrm.2 hm0
      have hmz := hrm.1
      have t1 : (m == 0) = false := beq_eq_false_iff_ne.2 hm0
      have t2 : (m != 0) = true := bne_iff_ne.2 hm0
      have ha := tmod_abs m
      have hb := tdiv_abs m
      rw [dB_eq] at ha hb
      obtain ⟨D, hD⟩ : ∃ D, m.tmod 268435456 = D := ⟨_, rfl⟩
      obtain ⟨E, hE⟩ : ∃ E, m.tdiv 268435456 = E := ⟨_, rfl⟩
      rw [hD] at ha
      rw [hE] at hb
      have kD : IntKind.i64.wrap D = D := IntWalk.i64_in _ (by omega)
      have kE : IntKind.i64.wrap E = E := IntWalk.i64_in _ (by omega)
      have hlen : out.length ≤ 1000000000 := by rw [HO.out.2.len]; omega
      have HEM : Hid (E.natAbs < m.natAbs) := Lib.hid (by omega)
      by_cases hlt : D < 0
      · obtain ⟨M, hM⟩ : ∃ M, -D = M := ⟨_, rfl⟩
        have kM : IntKind.i64.wrap M = M := IntWalk.i64_in _ (by omega)
        have lw : (Lit.int .i64 M).wf = true := lit_b (by omega)
        have HS := Lib.hid (HO.out.2.step hm0 (d := M) (m := E) (by rw [dB_eq]; omega) (by rw [dB_eq]; exact hb))
        clear ha hb hrm hzz hi2 hmz
        go_wp2_with (first | (at_builtin; refine push_int rfl _ _ rfl (lay w [.inl (.cells #[.slice A n c, .bool g] 276 (0, 0)), .inl (.cells #[.slice none 0 0, .bool false] 276 (0, 0))]) _ (M) 3 _ _ _ ?_ (ow_on (A := [_]) HO.out.1) ?_ rfl rfl hlen lw ?_; exact lay_below (A := [_, _]); exact lay_get w _ 0 _ rfl; intro v' d' hv'; obtain ⟨va, vn, vc, hve⟩ := hv'.form0; subst hve))
        rw [lay_bw] at hv'
        have hsw := (ow_swap (.cells #[.slice va vn vc, .bool g] 276 (0, 0)) (lay_lt w _ _) hv').base (size_swap _ (.cells #[.slice va vn vc, .bool g] 276 (0, 0)))
        have HSW := Lib.hid hsw
        clear hsw hv'
        go_roundw
        case rel => exact ⟨i + 1, E, va, vn, vc, out ++ [M], d', rfl, rfl, HSW.out, HS.out⟩
        case measure => have := HEM.out; simp [intOf]; omega
      · have lw : (Lit.int .i64 D).wf = true := lit_b (by omega)
        have HS := Lib.hid (HO.out.2.step hm0 (d := D) (m := E) (by rw [dB_eq]; omega) (by rw [dB_eq]; exact hb))
        clear ha hb hrm hzz hi2 hmz
        go_wp2_with (first | (at_builtin; refine push_int rfl _ _ rfl (lay w [.inl (.cells #[.slice A n c, .bool g] 276 (0, 0)), .inl (.cells #[.slice none 0 0, .bool false] 276 (0, 0))]) _ (D) 3 _ _ _ ?_ (ow_on (A := [_]) HO.out.1) ?_ rfl rfl hlen lw ?_; exact lay_below (A := [_, _]); exact lay_get w _ 0 _ rfl; intro v' d' hv'; obtain ⟨va, vn, vc, hve⟩ := hv'.form0; subst hve))
        rw [lay_bw] at hv'
        have hsw := (ow_swap (.cells #[.slice va vn vc, .bool g] 276 (0, 0)) (lay_lt w _ _) hv').base (size_swap _ (.cells #[.slice va vn vc, .bool g] 276 (0, 0)))
        have HSW := Lib.hid hsw
        clear hsw hv'
        go_roundw
        case rel => exact ⟨i + 1, E, va, vn, vc, out ++ [D], d', rfl, rfl, HSW.out, HS.out⟩
        case measure => have := HEM.out; simp [intOf]; omega
end Go.Proofs.YtnnmfdeeicpdlaaGreat
/- cosine's chain of operations: each gives its enclosure, and no error is kept. -/
namespace Go.Proofs.YtnnmfdeeicpdlaaGreat
set_option maxRecDepth 100000
open Go.RowKit

theorem cc_keep (b : Nat) (lo hi : Int) (w : World) (hc : ChW b w) :
    Calls Tryz.prog 276 #[.pointer (some ⟨b, 0, none⟩), (.agg #[.int .i64 (lo), .int .i64 (hi)]), .int .i64 0] w fun e w' => e = .returned (.agg #[.int .i64 (lo), .int .i64 (hi)]) ∧ ∃ d, w' = bw w d := by
  have hb := hc.lt
  have h1 := hc.cell
  have h2 := hc.froz
  have h3 : ∀ L, (lay w L).setCell ⟨b, 0, none⟩ (.int .i64 0) = lay w L := fun L => (hc.lay L).set
  refine lay_start ?_
  go_enter Tryz.func276, Tryz.ntmps276
  go_wp2_with fail
  exact bodyPost_ret (v := (.agg #[.int .i64 (lo), .int .i64 (hi)])) (by simp [results, Tryz.results276, go_sem]) rfl ⟨rfl, lay_ex _ _⟩
theorem cc_cos (b : Nat) (lo hi : Int) (w : World) (hc : ChW b w) (hv : validB lo hi = true) :
    Calls Tryz.prog 275 #[.pointer (some ⟨b, 0, none⟩), (.agg #[.int .i64 (lo), .int .i64 (hi)])] w fun e w' => e = .returned (.agg #[.int .i64 (encL (lo + 5400000) (hi + 5400000)), .int .i64 (encH (lo + 5400000) (hi + 5400000))]) ∧ ∃ d, w' = bw w d := by
  have HK := Lib.hid (fun L => cc_keep b (encL (lo + 5400000) (hi + 5400000)) (encH (lo + 5400000) (hi + 5400000)) (lay w L) (hc.lay L))
  have HT := Lib.hid (fun W => tg_Cos lo hi hv W)
  generalize encL (lo + 5400000) (hi + 5400000) = p at *
  generalize encH (lo + 5400000) (hi + 5400000) = q at *
  clear hc hv
  refine lay_start ?_
  go_enter Tryz.func275, Tryz.ntmps275
  go_wp2_with (first | (go_at_call 27; refine (HT.out _).mono ?_; rintro e w' ⟨rfl, d, rfl⟩; rw [lay_bw]) | (go_at_call 276; refine (HK.out _).mono ?_; rintro e w' ⟨rfl, d2, rfl⟩))
  exact bodyPost_ret (v := (.agg #[.int .i64 (p), .int .i64 (q)])) (by simp [results, Tryz.results275, go_sem]) rfl ⟨rfl, lay_ex _ _⟩
theorem cc_sin (b : Nat) (lo hi : Int) (w : World) (hc : ChW b w) (hv : validB lo hi = true) :
    Calls Tryz.prog 274 #[.pointer (some ⟨b, 0, none⟩), (.agg #[.int .i64 (lo), .int .i64 (hi)])] w fun e w' => e = .returned (.agg #[.int .i64 (encL lo hi), .int .i64 (encH lo hi)]) ∧ ∃ d, w' = bw w d := by
  have HK := Lib.hid (fun L => cc_keep b (encL lo hi) (encH lo hi) (lay w L) (hc.lay L))
  have HT := Lib.hid (fun W => tg_Sin lo hi hv W)
  generalize encL lo hi = p at *
  generalize encH lo hi = q at *
  clear hc hv
  refine lay_start ?_
  go_enter Tryz.func274, Tryz.ntmps274
  go_wp2_with (first | (go_at_call 26; refine (HT.out _).mono ?_; rintro e w' ⟨rfl, d, rfl⟩; rw [lay_bw]) | (go_at_call 276; refine (HK.out _).mono ?_; rintro e w' ⟨rfl, d2, rfl⟩))
  exact bodyPost_ret (v := (.agg #[.int .i64 (p), .int .i64 (q)])) (by simp [results, Tryz.results274, go_sem]) rfl ⟨rfl, lay_ex _ _⟩
theorem cc_mul (b : Nat) (a0 a1 b0 b1 : Int) (w : World) (hc : ChW b w) (ha : fxB a0 a1 = true) (hb : fxB b0 b1 = true) (hm : fxB (mulL a0 a1 b0 b1) (mulH a0 a1 b0 b1) = true) :
    Calls Tryz.prog 231 #[.pointer (some ⟨b, 0, none⟩), (.agg #[.int .i64 (a0), .int .i64 (a1)]), (.agg #[.int .i64 (b0), .int .i64 (b1)])] w fun e w' => e = .returned (.agg #[.int .i64 (mulL a0 a1 b0 b1), .int .i64 (mulH a0 a1 b0 b1)]) ∧ ∃ d, w' = bw w d := by
  have HK := Lib.hid (fun L => cc_keep b (mulL a0 a1 b0 b1) (mulH a0 a1 b0 b1) (lay w L) (hc.lay L))
  have HT := Lib.hid (fun W => fx_MulG a0 a1 b0 b1 W ha hb hm)
  generalize mulL a0 a1 b0 b1 = p at *
  generalize mulH a0 a1 b0 b1 = q at *
  clear hc ha hb hm
  refine lay_start ?_
  go_enter Tryz.func231, Tryz.ntmps231
  go_wp2_with (first | (go_at_call 24; refine (HT.out _).mono ?_; rintro e w' ⟨rfl, d, rfl⟩; rw [lay_bw]) | (go_at_call 276; refine (HK.out _).mono ?_; rintro e w' ⟨rfl, d2, rfl⟩))
  exact bodyPost_ret (v := (.agg #[.int .i64 (p), .int .i64 (q)])) (by simp [results, Tryz.results231, go_sem]) rfl ⟨rfl, lay_ex _ _⟩
theorem cc_add (b : Nat) (a0 a1 b0 b1 : Int) (w : World) (hc : ChW b w) (ha : fxB a0 a1 = true) (hb : fxB b0 b1 = true) (hm : fxB (a0 + b0) (a1 + b1) = true) :
    Calls Tryz.prog 230 #[.pointer (some ⟨b, 0, none⟩), (.agg #[.int .i64 (a0), .int .i64 (a1)]), (.agg #[.int .i64 (b0), .int .i64 (b1)])] w fun e w' => e = .returned (.agg #[.int .i64 (a0 + b0), .int .i64 (a1 + b1)]) ∧ ∃ d, w' = bw w d := by
  have HK := Lib.hid (fun L => cc_keep b (a0 + b0) (a1 + b1) (lay w L) (hc.lay L))
  have HT := Lib.hid (fun W => fx_AddG a0 a1 b0 b1 W ha hb hm)
  generalize a0 + b0 = p at *
  generalize a1 + b1 = q at *
  clear hc ha hb hm
  refine lay_start ?_
  go_enter Tryz.func230, Tryz.ntmps230
  go_wp2_with (first | (go_at_call 277; refine (HT.out _).mono ?_; rintro e w' ⟨rfl, d, rfl⟩; rw [lay_bw]) | (go_at_call 276; refine (HK.out _).mono ?_; rintro e w' ⟨rfl, d2, rfl⟩))
  exact bodyPost_ret (v := (.agg #[.int .i64 (p), .int .i64 (q)])) (by simp [results, Tryz.results230, go_sem]) rfl ⟨rfl, lay_ex _ _⟩
set_option maxHeartbeats 1000000 in
theorem cc_of (b : Nat) (a0 a1 b0 b1 c0 c1 : Int) (w : World) (hc : ChW b w) (va : validB a0 a1 = true) (vb : validB b0 b1 = true) (vc : validB c0 c1 = true) :
    Calls Tryz.prog 229 #[.pointer (some ⟨b, 0, none⟩), (.agg #[.int .i64 (a0), .int .i64 (a1), .int .i64 (b0), .int .i64 (b1), .int .i64 (c0), .int .i64 (c1)])] w fun e w' => e = .returned (.agg #[.int .i64 (encL a0 a1), .int .i64 (encH a0 a1), .int .i64 (cosL a0 a1), .int .i64 (cosH a0 a1), .int .i64 (encL b0 b1), .int .i64 (encH b0 b1), .int .i64 (cosL b0 b1), .int .i64 (cosH b0 b1), .int .i64 (encL c0 c1), .int .i64 (encH c0 c1), .int .i64 (cosL c0 c1), .int .i64 (cosH c0 c1)]) ∧ ∃ d, w' = bw w d := by
  have HS1 := Lib.hid (fun L => cc_sin b a0 a1 (lay w L) (hc.lay L) va)
  have HS2 := Lib.hid (fun L => cc_sin b b0 b1 (lay w L) (hc.lay L) vb)
  have HS3 := Lib.hid (fun L => cc_sin b c0 c1 (lay w L) (hc.lay L) vc)
  have HC1 : Hid (∀ L, Calls _ _ #[_, (.agg #[.int .i64 (a0), .int .i64 (a1)])] _ fun e w' => e = .returned (.agg #[.int .i64 (cosL a0 a1), .int .i64 (cosH a0 a1)]) ∧ _) := Lib.hid (fun L => cc_cos b a0 a1 (lay w L) (hc.lay L) va)
  have HC2 : Hid (∀ L, Calls _ _ #[_, (.agg #[.int .i64 (b0), .int .i64 (b1)])] _ fun e w' => e = .returned (.agg #[.int .i64 (cosL b0 b1), .int .i64 (cosH b0 b1)]) ∧ _) := Lib.hid (fun L => cc_cos b b0 b1 (lay w L) (hc.lay L) vb)
  have HC3 : Hid (∀ L, Calls _ _ #[_, (.agg #[.int .i64 (c0), .int .i64 (c1)])] _ fun e w' => e = .returned (.agg #[.int .i64 (cosL c0 c1), .int .i64 (cosH c0 c1)]) ∧ _) := Lib.hid (fun L => cc_cos b c0 c1 (lay w L) (hc.lay L) vc)
  generalize encL a0 a1 = p1 at *
  generalize encH a0 a1 = q1 at *
  generalize encL b0 b1 = p2 at *
  generalize encH b0 b1 = q2 at *
  generalize encL c0 c1 = p3 at *
  generalize encH c0 c1 = q3 at *
  generalize cosL a0 a1 = r1 at *
  generalize cosH a0 a1 = s1 at *
  generalize cosL b0 b1 = r2 at *
  generalize cosH b0 b1 = s2 at *
  generalize cosL c0 c1 = r3 at *
  generalize cosH c0 c1 = s3 at *
  clear hc va vb vc
  refine lay_start ?_
  go_enter Tryz.func229, Tryz.ntmps229
  go_wp2_with fail
  refine region_bw_tail 25 (by kernel_rfl) (by kernel_rfl) ?_
  simp only [List.take_succ_cons, List.take_zero, List.drop_succ_cons, List.drop_zero]
  repeat (go_big_quiet_step ((first | (go_at_call 274; first | ((with_reducible refine bq (HS1.out _) ?_); first | exact (fun d => lay_join _ _ _ d) | exact (fun d => ⟨d, rfl⟩)) | ((with_reducible refine bq (HS2.out _) ?_); first | exact (fun d => lay_join _ _ _ d) | exact (fun d => ⟨d, rfl⟩)) | ((with_reducible refine bq (HS3.out _) ?_); first | exact (fun d => lay_join _ _ _ d) | exact (fun d => ⟨d, rfl⟩))) | (go_at_call 275; first | ((with_reducible refine bq (HC1.out _) ?_); first | exact (fun d => lay_join _ _ _ d) | exact (fun d => ⟨d, rfl⟩)) | ((with_reducible refine bq (HC2.out _) ?_); first | exact (fun d => lay_join _ _ _ d) | exact (fun d => ⟨d, rfl⟩)) | ((with_reducible refine bq (HC3.out _) ?_); first | exact (fun d => lay_join _ _ _ d) | exact (fun d => ⟨d, rfl⟩))))))
  refine wpQuiet_nil ?_
  rintro w' ⟨d, rfl⟩
  rw [lay_bw]
  go_wp2_with fail
  exact bodyPost_ret (v := (.agg #[.int .i64 (p1), .int .i64 (q1), .int .i64 (r1), .int .i64 (s1), .int .i64 (p2), .int .i64 (q2), .int .i64 (r2), .int .i64 (s2), .int .i64 (p3), .int .i64 (q3), .int .i64 (r3), .int .i64 (s3)])) (by simp [results, Tryz.results229, go_sem]) rfl ⟨rfl, lay_ex _ _⟩
end Go.Proofs.YtnnmfdeeicpdlaaGreat
/- slices.Clone at rows of records: a row of the call's own that holds the same records. -/
namespace Go.Proofs.YtnnmfdeeicpdlaaGreat
open Go.RowKit

def ClnPost {α : Type} (R : RecT α) (w : World) (l : List α) (e : Ending) (w' : World) : Prop := ∃ v' d, e = .returned v' ∧ w' = bw w d ∧ OwG R (bw w d) w.heap.size v' l
set_option maxHeartbeats 1000000 in
set_option maxRecDepth 100000 in
theorem cln_Star (v : Value) (l : List StarV) (w : World) (hv : SlG stR w v l) (hn : l.length ≤ 1000000000) :
    Calls Tryz.prog 68 #[v] w (ClnPost stR w l) := by
  unfold ClnPost
  by_cases hz : l = []
  · subst hz
    obtain ⟨a, c, rfl⟩ := hv.form
    cases a with
    | none =>
      refine lay_start ?_
      have qT : ∀ (w : World) (a : Option Addr) (n c : Nat), (binOp .eql 36 (.slice a n c) (.slice none 0 0)).run Tryz.prog w = .ok (.bool a.isNone) w := fun w a n c => Lib.run_eql_slice_nil w _ _ a n c 0 0 stOk.und
      go_enter Tryz.func68, Tryz.ntmps68
      go_wp2_with fail
      go_ret
      exact ⟨_, noExt _, rfl, (bw_noExt _).symm, OwG.nil _ _ _⟩
    | some a =>
      refine lay_start ?_
      have HV := Lib.hid (fun L => hv.lay L)
      have qT : ∀ (w : World) (a : Option Addr) (n c : Nat), (binOp .eql 36 (.slice a n c) (.slice none 0 0)).run Tryz.prog w = .ok (.bool a.isNone) w := fun w a n c => Lib.run_eql_slice_nil w _ _ a n c 0 0 stOk.und
      go_enter Tryz.func68, Tryz.ntmps68
      go_wp2_with (at_builtin; refine push_slG stOk rfl _ _ rfl (lay w []) _ _ _ (some a) 0 c [] (lay_belowG (A := [_]) (B := [])) (owG_empty' _ (A := []) (B := []) (L := [])) (HV.out _) (fun h => by cases h) rfl rfl (by simp) ?_; intro v' d' hv')
      obtain ⟨va, vc, hve⟩ := hv'.form
      have H' := Lib.hid hv'
      subst hve
      clear hv'
      go_wp2_with fail
      go_ret
      exact ⟨_, d', rfl, rfl, H'.out⟩
  · obtain ⟨b, o, cap, rfl, hc, hb, hr⟩ := hv.open (List.length_pos_iff.2 hz)
    have HV := Lib.hid (fun L => hv.lay L)
    have HN := Lib.hid hn
    clear hr hv hz
    refine lay_start ?_
    have qT : ∀ (w : World) (a : Option Addr) (n c : Nat), (binOp .eql 36 (.slice a n c) (.slice none 0 0)).run Tryz.prog w = .ok (.bool a.isNone) w := fun w a n c => Lib.run_eql_slice_nil w _ _ a n c 0 0 stOk.und
    go_enter Tryz.func68, Tryz.ntmps68
    go_wp2_with (at_builtin; refine push_slG stOk rfl _ _ rfl (lay w []) _ _ [] (some ⟨b, o, none⟩) l.length cap l (lay_belowG (A := [_]) (B := [])) (owG_empty' _ (A := []) (B := []) (L := [])) (HV.out _) (fun h => by cases h) rfl rfl (by simpa using HN.out) ?_; intro v' d' hv')
    obtain ⟨va, vc, hve⟩ := hv'.form
    have H' := Lib.hid hv'
    subst hve
    clear hv'
    go_wp2_with fail
    go_ret
    exact ⟨_, d', rfl, rfl, H'.out⟩
end Go.Proofs.YtnnmfdeeicpdlaaGreat
/- Valid catalogues in the reference. -/
namespace Go.Proofs.YtnnmfdeeicpdlaaGreat
open Go.RowKit Go.Shelf

end Go.Proofs.YtnnmfdeeicpdlaaGreat
/- almanac.New without pages: what it calls. -/
namespace Go.Proofs.YtnnmfdeeicpdlaaGreat
set_option maxHeartbeats 1000000
open Go.RowKit Go.Shelf

theorem pgs_IndexFunc_nil (a : Option Addr) (c : Nat) (f : Value) (w : World) :
    Calls Tryz.prog 153 #[.slice a 0 c, f] w fun e w' => e = .returned (.int .i64 (-1)) ∧ ∃ d, w' = bw w d := by
  refine lay_start ?_
  go_enter Tryz.func153, Tryz.ntmps153
  go_wp2_with fail
  refine wp_loop_rounds 1 ?_
  rw [rounds_succ]
  go_wp2
  go_ret
  exact ⟨rfl, lay_ex _ _⟩
theorem pgs_ContainsFunc_nil (a : Option Addr) (c : Nat) (f : Value) (w : World) :
    Calls Tryz.prog 63 #[.slice a 0 c, f] w fun e w' => e = .returned (.bool false) ∧ ∃ d, w' = bw w d := by
  refine lay_start ?_
  go_enter Tryz.func63, Tryz.ntmps63
  go_wp2_with (go_at_call 153; refine (pgs_IndexFunc_nil _ _ _ _).mono ?_; rintro e w' ⟨rfl, d, rfl⟩)
  go_ret
  exact ⟨rfl, lay_ex _ _⟩
theorem pgs_Clone_nil (w : World) :
    Calls Tryz.prog 158 #[.slice none 0 0] w fun e w' => e = .returned (.slice none 0 0) ∧ ∃ d, w' = bw w d := by
  refine lay_start ?_
  have qT : ∀ (w : World) (a : Option Addr) (n c : Nat), (binOp .eql 94 (.slice a n c) (.slice none 0 0)).run Tryz.prog w = .ok (.bool a.isNone) w := fun w a n c => Lib.run_eql_slice_nil w _ _ a n c 0 0 pgOk.und
  go_enter Tryz.func158, Tryz.ntmps158
  go_wp2_with fail
  go_ret
  exact ⟨rfl, lay_ex _ _⟩
theorem alm_copied_nil (w : World) :
    Calls Tryz.prog 67 #[.slice none 0 0] w fun e w' => e = .returned (.slice none 0 0) ∧ ∃ d, w' = bw w d := by
  refine lay_start ?_
  go_enter Tryz.func67, Tryz.ntmps67
  go_wp2_with (go_at_call 158; refine (pgs_Clone_nil _).mono ?_; rintro e w' ⟨rfl, d, rfl⟩)
  refine wp_loop_rounds 1 ?_
  rw [rounds_succ]
  go_wp2
  go_ret
  exact ⟨rfl, lay_ex _ _⟩
theorem alm_tracked_nil (bk : Nat) (vd vs : Value) (w : World) (hB : Bk w bk vd (.slice none 0 0) vs) :
    Calls Tryz.prog 70 #[.pointer (some ⟨bk, 0, none⟩)] w fun e w' => e = .returned (.slice none 0 0) ∧ ∃ d, w' = bw w d := by
  obtain ⟨k0, k1, k2, k3⟩ := hB
  refine lay_start ?_
  go_enter Tryz.func70, Tryz.ntmps70
  go_wp2_with fail
  refine wp_loop_rounds 1 ?_
  rw [rounds_succ]
  go_wp2_with (first | (go_at_call 163; refine (Tryz.slices_Sort_string_none _ _ _).mono ?_; rintro e w' ⟨rfl, rfl⟩) | (go_at_call 164; refine (Tryz.slices_Compact_string_empty _ _ _).mono ?_; rintro e w' ⟨rfl, rfl⟩))
  go_ret
  exact ⟨rfl, noExt _, (bw_noExt _).symm⟩
def isA (s : ByteArray) : Bool := s.toList == [65, 114, 105, 101, 115]
theorem alm_New2_nil (x : StarV) (b : Nat) (w : World) (hb : b < w.heap.size) (hc : w.cell? ⟨b, 0, none⟩ = some (.slice none 0 0)) :
    Calls Tryz.prog 73 #[.agg #[.string x.s, .int .i64 x.sha, .int .i64 x.dec, .int .i64 x.mag], .pointer (some ⟨b, 0, none⟩)] w fun e w' => e = .returned (.bool (isA x.s)) ∧ ∃ d, w' = bw w d := by
  obtain ⟨xs, x1, x2, x3⟩ := x
  dsimp only
  have ho : isA xs = (xs.toList == [65, 114, 105, 101, 115]) := rfl
  cases h : isA xs
  · rw [h] at ho
    have t1 := ho.symm
    clear ho h
    refine lay_start ?_
    go_enter Tryz.func73, Tryz.ntmps73
    go_wp2_with (go_at_call 71; refine (Tryz.slices_Contains_string_empty _ _ _ _).mono ?_; rintro e w' ⟨rfl, rfl⟩)
    go_ret
    exact ⟨rfl, lay_ex _ _⟩
  · rw [h] at ho
    have t1 := ho.symm
    clear ho h
    refine lay_start ?_
    go_enter Tryz.func73, Tryz.ntmps73
    go_wp2_with (go_at_call 71; refine (Tryz.slices_Contains_string_empty _ _ _ _).mono ?_; rintro e w' ⟨rfl, rfl⟩)
    go_ret
    exact ⟨rfl, lay_ex _ _⟩
theorem st_ContainsFunc (g : FuncId) (lb : List Value) (p : StarV → Bool) (v : Value) (l : List StarV) (w : World) (hv : SlG stR w v l)
    (eI : ∀ args w, (callFunc g args).run Tryz.prog w = .ok (.enter g args) w)
    (hf : ∀ x ∈ l, ∀ d, Calls Tryz.prog g (.agg (stR.enc x).toArray :: lb).toArray (bw w d) fun e w' => e = .returned (.bool (p x)) ∧ ∃ d, w' = bw w d) :
    Calls Tryz.prog 72 #[v, .func (.func g) #[] lb.toArray] w fun e w' => e = .returned (.bool (l.any p)) ∧ ∃ d, w' = bw w d := by
  have H := Lib.hid (st_IndexFunc g lb p v l w hv eI hf)
  have HS := Lib.hid (idxR_any p l 0)
  generalize idxR p l 0 = x at *
  generalize l.any p = y at *
  clear hf eI hv
  refine lay_start ?_
  go_enter Tryz.func72, Tryz.ntmps72
  go_wp2_with (go_at_call 107; refine H.out.mono ?_; rintro e w' ⟨rfl, d, rfl⟩)
  go_ret
  exact ⟨ret_bool HS.out, _, rfl⟩
end Go.Proofs.YtnnmfdeeicpdlaaGreat
/- Rows of strings; (*almanac.Book).Bodies. -/
namespace Go.Proofs.YtnnmfdeeicpdlaaGreat
open Go.RowKit

def strR : RecT ByteArray := { E := 9, S := 116, k := 1, bytes := 16, enc := fun x => [.string x], wf := fun x => x.size ≤ 9223372036854775807 }
theorem info_str : (Tryz.prog.info? 9).map (fun i => (i.zero.map (fun z => z.cells.size), i.size, i.bytes)) = some (some 1, 1, 16) := by kernel_rfl
theorem strOk : RecOk strR where
  len _ := rfl
  one x u hu := by
    simp only [strR, List.mem_cons, List.not_mem_nil, or_false] at hu
    rcases hu with rfl
    rfl
  pos := by decide
  und := Tryz.underlying116
  info := recInfo info_str
  small := by decide
def StrPost (w : World) (T : List ByteArray) (e : Ending) (w' : World) : Prop := ∃ A c d, e = .returned (.slice A T.length c) ∧ w' = bw w d ∧ (A = none → c = 0) ∧ SlG strR (bw w d) (.slice A T.length c) T
def StrOwn (w : World) (T : List ByteArray) (e : Ending) (w' : World) : Prop := ∃ v d, e = .returned v ∧ w' = bw w d ∧ OwG strR (bw w d) w.heap.size v T
theorem str_flat1 (s : ByteArray) : (#[Value.string s] : Array Value).toList = [s].flatMap strR.enc := rfl
theorem aries_wf : ∀ x ∈ [ariesS], strR.wf x := by
  intro x hx
  rw [List.mem_singleton.1 hx]
  exact (by decide : ariesS.size ≤ 9223372036854775807)
set_option maxHeartbeats 1000000 in
set_option maxRecDepth 100000 in
theorem alm_Bodies (bk : Nat) (vd vp vs : Value) (l : List StarV) (T : List ByteArray) (w : World) (hB : Bk w bk vd vp vs) (hv : SlG stR w vs l)
    (hT : ∀ L, Calls Tryz.prog 70 #[.pointer (some ⟨bk, 0, none⟩)] (lay w L) (StrPost (lay w L) T)) (hl : l.length ≤ 1000000) (hT1 : T.length ≤ 1000000) :
    Calls Tryz.prog 227 #[.pointer (some ⟨bk, 0, none⟩)] w (StrOwn w ([ariesS] ++ T ++ l.map StarV.s)) := by
  have HT := Lib.hid hT
  have HT1 := Lib.hid hT1
  have HL := Lib.hid hl
  have HV := Lib.hid hv
  obtain ⟨k0, k1, k2, k3⟩ := hB
  clear hT hl hT1
  by_cases hz : l = []
  · subst hz
    obtain ⟨sa, sc, rfl⟩ := hv.form
    clear hv
    refine lay_start ?_
    go_enter Tryz.func227, Tryz.ntmps227
    go_wp2_with fail
    refine (HT.out _).mono ?_
    rintro e w' ⟨A, c, d1, rfl, rfl, hA, hS⟩
    rw [lay_bw] at hS ⊢
    have HS := Lib.hid hS
    have HA := Lib.hid hA
    clear hS hA
    go_wp2_with (at_builtin; refine push_slG strOk rfl _ _ rfl (lay w []) _ _ [ariesS] A T.length c T (lay_belowG (A := [_, _]) (B := [])) (owG_on (A := [_]) (owG_lit strOk [ariesS] (str_flat1 _) (by decide) aries_wf)) HS.out HA.out rfl rfl (by have := HT1.out; simp only [List.length_cons, List.length_nil]; omega) ?_; intro v2 d2 hv2)
    obtain ⟨Q0, hQ0⟩ : ∃ Q0, Q0 = [ariesS] ++ T := ⟨_, rfl⟩
    have HQ0 := Lib.hid hQ0
    rw [← hQ0] at hv2
    have H2 := Lib.hid hv2
    obtain ⟨va, vc, rfl⟩ := hv2.form
    clear hv2 hQ0
    generalize Q0.length = n0 at *
    go_wp2_with fail
    refine wp_loop_rounds 1 ?_
    rw [rounds_succ]
    go_wp2_with fail
    go_ret
    refine ⟨_, d2, rfl, rfl, ?_⟩
    have h := H2.out
    rw [HQ0.out, ← List.append_nil ([ariesS] ++ T)] at h
    exact h
  · obtain ⟨bs, os, cs, rfl, hcs, hbs, hr⟩ := hv.open (List.length_pos_iff.2 hz)
    obtain ⟨m, hm⟩ : ∃ m, l.length = m := ⟨_, rfl⟩
    have HM := Lib.hid hm
    have HR : Hid (∀ i x, l[i]? = some x → w.cell? ⟨bs, os + i * 4, none⟩ = some (.string x.s) ∧ w.cell? ⟨bs, os + i * 4 + 1, none⟩ = some (.int .i64 x.sha) ∧ w.cell? ⟨bs, os + i * 4 + 2, none⟩ = some (.int .i64 x.dec) ∧ w.cell? ⟨bs, os + i * 4 + 3, none⟩ = some (.int .i64 x.mag)) :=
      Lib.hid (fun i x hx => ⟨hr i x hx 0 _ rfl, hr i x hx 1 _ rfl, hr i x hx 2 _ rfl, hr i x hx 3 _ rfl⟩)
    have HW := Lib.hid hv.wf
    rw [hm] at hcs k3 HL
    clear hv hr hz hm HV
    refine lay_start ?_
    go_enter Tryz.func227, Tryz.ntmps227
    go_wp2_with fail
    refine (HT.out _).mono ?_
    rintro e w' ⟨A, c, d1, rfl, rfl, hA, hS⟩
    rw [lay_bw] at hS ⊢
    have HS := Lib.hid hS
    have HA := Lib.hid hA
    clear hS hA
    go_wp2_with (at_builtin; refine push_slG strOk rfl _ _ rfl (lay w []) _ _ [ariesS] A T.length c T (lay_belowG (A := [_, _]) (B := [])) (owG_on (A := [_]) (owG_lit strOk [ariesS] (str_flat1 _) (by decide) aries_wf)) HS.out HA.out rfl rfl (by have := HT1.out; simp only [List.length_cons, List.length_nil]; omega) ?_; intro v2 d2 hv2)
    obtain ⟨Q0, hQ0⟩ : ∃ Q0, Q0 = [ariesS] ++ T := ⟨_, rfl⟩
    have HQ0 := Lib.hid hQ0
    rw [← hQ0] at hv2
    have H2 := Lib.hid hv2
    obtain ⟨va, vc, rfl⟩ := hv2.form
    clear hv2 hQ0
    generalize Q0.length = n0 at *
    go_wp2_with fail
    go_loopw [3, 17] (fun v3 v17 wr => ∃ (i : Nat) (d : Ext), i ≤ m ∧ v17 = .int .i64 (i : Int) ∧ wr = lay w [.inr d] ∧ OwG strR (lay w [.inr d]) w.heap.size v3 (Q0 ++ (l.take i).map StarV.s)) (fun _ v17 _ => m - (intOf v17).toNat)
    case atStart => exact ⟨0, d2, Nat.zero_le _, rfl, rfl, by have h := H2.out; rw [← List.append_nil Q0] at h; exact h⟩
    case round =>
      obtain ⟨i, d, hi, rfl, rfl, hO⟩ := hrel
      have HO := Lib.hid hO
      clear hO
      by_cases hlt : i < m
      · obtain ⟨x, hx⟩ : ∃ x, l[i]? = some x := ⟨_, List.getElem?_eq_getElem (by rw [HM.out]; exact hlt)⟩
        obtain ⟨e0, e1, e2, e3⟩ := HR.out i x hx
        have HX := Lib.hid hx
        have x1 : (i : Int) < (m : Int) := by omega
        have x0 : (0 : Int) ≤ (i : Int) := by omega
        have HWx := Lib.hid (HW.out x (List.mem_of_getElem? hx)).1
        have HLn : Hid ((Q0 ++ (l.take i).map StarV.s).length ≤ 1000000000) := Lib.hid (by have h1 := HT1.out; have h2 := HL.out; rw [HQ0.out]; simp only [List.length_append, List.length_map, List.length_take, List.length_cons, List.length_nil]; omega)
        have HN : Hid (Q0 ++ (l.take i).map StarV.s ++ [x.s] = Q0 ++ (l.take (i + 1)).map StarV.s) := Lib.hid (by rw [List.take_add_one, hx]; simp)
        clear hx
        generalize hQ : Q0 ++ (l.take i).map StarV.s = Q at *
        clear hQ
        obtain ⟨xs, xa, xb, xc⟩ := x
        dsimp only at e0 e1 e2 e3 HWx HN
        go_wp2_with (at_builtin; refine push_rec strOk rfl _ _ rfl (lay w []) _ xs #[.string xs] 9 (posn w [1, d.n]) _ Q (lay_belowG (A := [_, _, _]) (B := [])) (owG_on (A := [_, _]) HO.out) (lay_get w _ 0 _ rfl) rfl rfl rfl HLn.out HWx.out ?_; intro v3 d3 hv3)
        have H3 := Lib.hid hv3
        clear hv3
        go_wp2_with fail
        go_roundw
        case rel =>
          exact ⟨i + 1, d3, by omega, by go_num, rfl, by have h3 := H3.out; rw [HN.out] at h3; exact h3⟩
        case measure => simp [intOf]; omega
      · obtain rfl : i = m := by omega
        have x1 : ¬ (i : Int) < (i : Int) := by omega
        have HN : Hid (l.take i = l) := Lib.hid (by rw [← HM.out]; exact List.take_length)
        rw [HN.out] at HO
        go_wp2_with fail
        go_ret
        exact ⟨_, d, rfl, rfl, by have h := HO.out; rw [HQ0.out] at h; exact h⟩
end Go.Proofs.YtnnmfdeeicpdlaaGreat

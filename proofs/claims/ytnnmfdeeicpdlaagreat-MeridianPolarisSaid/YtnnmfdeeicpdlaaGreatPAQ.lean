/- Contracts and plain laws, several texts in one: DgN; DgO; Nr1; Lb1; Lb2; Ns1; Nr2; Nr3; Die; Dif; Dig; Nr4; Rq -/
import Derived.Test.YtnnmfdeeicpdlaaGreatProg
import Derived.WalkKit
import Derived.WalkSpells
import Derived.WalkLawsBesides
import Derived.Lib.Hide
import Derived.BigQuiet
import GoSem.Core.Next
import Derived.Test.YtnnmfdeeicpdlaaGreatPAA
import Derived.Test.YtnnmfdeeicpdlaaGreatPAB
import Derived.Test.YtnnmfdeeicpdlaaGreatPAC
import Derived.Test.YtnnmfdeeicpdlaaGreatPAD
import Derived.Test.YtnnmfdeeicpdlaaGreatPAE
import Derived.Test.YtnnmfdeeicpdlaaGreatPAO
import Derived.Test.YtnnmfdeeicpdlaaGreatPAP
/- Numbers of digits with a sign: the plain law. No function of the program. -/
namespace Go.Proofs.YtnnmfdeeicpdlaaGreat

def numV (neg : Bool) (l : List Int) : Int := if neg then -valD l else valD l
structure NumK (neg : Bool) (l : List Int) (z : Int) : Prop where
  can : Can l
  val : z = numV neg l
  ok : neg = true → l ≠ []
theorem NumK.abs {neg : Bool} {l : List Int} {z : Int} (h : NumK neg l z) : valD l = z.natAbs := by
  have h1 := (valD_bd h.can.1).1
  have h2 := h.val
  unfold numV at h2
  cases neg
  · simp only [Bool.false_eq_true, if_false] at h2; omega
  · simp only [if_true] at h2; omega
theorem Can.pos {l : List Int} (h : Can l) (hl : l ≠ []) : 0 < valD l := by
  have := h.low hl
  have := dB_pow_pos (l.length - 1)
  omega
theorem NumK.neg_iff {neg : Bool} {l : List Int} {z : Int} (h : NumK neg l z) : neg = decide (z < 0) := by
  have h1 := (valD_bd h.can.1).1
  have h2 := h.val
  unfold numV at h2
  cases neg
  · simp only [Bool.false_eq_true, if_false] at h2
    exact (decide_eq_false (by omega)).symm
  · simp only [if_true] at h2
    have := h.can.pos (h.ok rfl)
    exact (decide_eq_true (by omega)).symm
theorem NumK.sign {neg : Bool} {l : List Int} (h : Can l) : NumK (if l = [] then false else neg) l (numV neg l) := by
  by_cases hl : l = []
  · subst hl
    rw [if_pos rfl]
    refine ⟨h, ?_, fun e => by cases e⟩
    cases neg <;> simp [numV, valD]
  · rw [if_neg hl]
    exact ⟨h, rfl, fun _ => hl⟩
theorem NumK.plus_same {n : Bool} {a b l : List Int} {x y : Int} (ha : NumK n a x) (hb : NumK n b y) (hl : Can l) (hv : valD l = valD a + valD b) : NumK n l (x + y) := by
  refine ⟨hl, ?_, fun hn hz => ?_⟩
  · have h1 := ha.val
    have h2 := hb.val
    unfold numV at *
    cases n
    · simp only [Bool.false_eq_true, if_false] at *; omega
    · simp only [if_true] at *; omega
  · subst hz
    have h1 := ha.can.pos (ha.ok hn)
    have h2 := (valD_bd hb.can.1).1
    simp only [valD] at hv
    omega
theorem numV_less {n m : Bool} {a b l : List Int} {x y : Int} (hnm : n ≠ m) (ha : NumK n a x) (hb : NumK m b y) (hv : valD l = valD a - valD b) : numV n l = x + y := by
  have h1 := ha.val
  have h2 := hb.val
  unfold numV at *
  cases n <;> cases m
  · exact absurd rfl hnm
  · simp only [Bool.false_eq_true, if_false, if_true] at *; omega
  · simp only [Bool.false_eq_true, if_false, if_true] at *; omega
  · exact absurd rfl hnm
theorem numV_mul {n m : Bool} {a b l : List Int} {x y : Int} (ha : NumK n a x) (hb : NumK m b y) (hv : valD l = valD a * valD b) : numV (n != m) l = x * y := by
  have h1 := ha.val
  have h2 := hb.val
  unfold numV at *
  cases n <;> cases m <;> simp only [Bool.false_eq_true, if_false, if_true, bne_self_eq_false, Bool.bne_true, Bool.not_false, Bool.bne_false] at * <;> rw [hv, h1, h2]
  · rw [Int.mul_neg]
  · rw [Int.neg_mul]
  · rw [Int.neg_mul, Int.mul_neg, Int.neg_neg]
end Go.Proofs.YtnnmfdeeicpdlaaGreat
/- Digits of an int, and back: the plain law. No function of the program. -/
namespace Go.Proofs.YtnnmfdeeicpdlaaGreat

structure OfI (z : Int) (i : Nat) (out : List Int) (n : Int) : Prop where
  len : out.length = i
  dg : Dg out
  val : valD out + dB ^ i * (n.natAbs : Int) = (z.natAbs : Int)
  can : n = 0 → Can out
theorem OfI.start (z : Int) : OfI z 0 [] z := ⟨rfl, Dg.nil, by simp [valD], fun _ => Can.nil⟩
theorem OfI.step {z : Int} {i : Nat} {out : List Int} {n d m : Int} (h : OfI z i out n) (hn : n ≠ 0) (hd : d = (n.natAbs : Int) % dB) (hm : (m.natAbs : Int) = (n.natAbs : Int) / dB) : OfI z (i + 1) (out ++ [d]) m := by
  have hp := dB_pos
  have m0 : 0 ≤ d := by rw [hd]; exact Int.emod_nonneg _ (by omega)
  have m1 : d < dB := by rw [hd]; exact Int.emod_lt_of_pos _ hp
  have e1 := Int.mul_ediv_add_emod (n.natAbs : Int) dB
  rw [← hd, ← hm] at e1
  refine ⟨by rw [List.length_append, h.len]; rfl, h.dg.app (Dg.one ⟨m0, m1⟩), ?_, fun hz => ?_⟩
  · rw [valD_snoc, h.len, Int.pow_succ, Int.mul_assoc]
    have hv := h.val
    have e2 : dB ^ i * d + dB ^ i * (dB * (m.natAbs : Int)) = dB ^ i * (n.natAbs : Int) := by rw [← Int.mul_add]; congr 1; omega
    omega
  · subst hz
    simp only [Int.natAbs_zero, Int.natCast_zero, Int.mul_zero, Int.zero_add] at e1
    exact Can.snoc h.dg (by omega) m1
theorem OfI.done {z : Int} {i : Nat} {out : List Int} (h : OfI z i out 0) : NumK (decide (z < 0)) out z := by
  have hv := h.val
  simp only [Int.natAbs_zero, Int.natCast_zero, Int.mul_zero, Int.add_zero] at hv
  refine ⟨h.can rfl, ?_, fun hn hz => ?_⟩
  · unfold numV
    by_cases h0 : z < 0
    · rw [decide_eq_true h0, if_pos rfl]; omega
    · rw [decide_eq_false h0]
      simp only [Bool.false_eq_true, if_false]; omega
  · subst hz
    have := of_decide_eq_true hn
    simp only [valD] at hv
    omega
theorem tmod_abs (n : Int) : ((Int.tmod n dB).natAbs : Int) = (n.natAbs : Int) % dB := by
  have h : (Int.tmod n dB).natAbs = n.natAbs % 268435456 := by rw [Int.natAbs_tmod]; rfl
  rw [h]; exact Int.natCast_emod _ _
theorem tdiv_abs (n : Int) : ((Int.tdiv n dB).natAbs : Int) = (n.natAbs : Int) / dB := by
  have h : (Int.tdiv n dB).natAbs = n.natAbs / 268435456 := by rw [Int.natAbs_tdiv]; rfl
  rw [h]; exact Int.natCast_ediv _ _
theorem back_step {l : List Int} {i : Nat} (h : i < l.length) : valD (l.drop i) = nth l i + dB * valD (l.drop (i + 1)) := by
  rw [List.drop_eq_getElem_cons h, valD, nth_in h]
end Go.Proofs.YtnnmfdeeicpdlaaGreat
/- The reference's limbs: Part, Unit, Drop, Pi. -/
namespace Go.Proofs.YtnnmfdeeicpdlaaGreat
open Go.RowKit

structure PtI (a : List Int) (D : Int) (j : Nat) (out : List Int) (r : Int) : Prop where
  len : out.length = a.length
  dg : Dg out
  r0 : 0 ≤ r
  r1 : r < D
  v : valD (a.drop j) = D * valD (out.drop j) + r
theorem PtI.start (a : List Int) {D : Int} (h : 1 ≤ D) : PtI a D a.length (List.replicate a.length 0) 0 :=
  ⟨List.length_replicate, fun d hd => by rw [List.eq_of_mem_replicate hd]; exact ⟨Int.le_refl _, dB_pos⟩, Int.le_refl _, by omega, by
    rw [List.drop_of_length_le (Nat.le_refl _), List.drop_of_length_le (by rw [List.length_replicate]; exact Nat.le_refl _)]
    simp [valD]⟩
theorem drop_setN {l : List Int} {j : Nat} (v : Int) (h : j < l.length) : (l.set j v).drop j = v :: l.drop (j + 1) := by
  rw [List.drop_eq_getElem_cons (by rw [List.length_set]; exact h), List.getElem_set_self, List.drop_set_of_lt (by omega)]
theorem PtI.step {a : List Int} {D : Int} {j : Nat} {out : List Int} {r x : Int} (ha : Dg a) (h : PtI a D (j + 1) out r) (hj : j < a.length) (hx : x = r * dB + nth a j) :
    0 ≤ x ∧ x < D * dB ∧ 0 ≤ x / D ∧ x / D < dB ∧ 0 ≤ x % D ∧ PtI a D j (out.set j (x / D)) (x % D) := by
  obtain ⟨h1, h2, h3, h4, h5⟩ := h
  have n := ha.nth j
  have D0 : 0 < D := by omega
  have p0 : 0 ≤ r * dB := Int.mul_nonneg h3 (Int.le_of_lt dB_pos)
  have p1 : r * dB + dB ≤ D * dB := by
    have := Int.mul_le_mul_of_nonneg_right (show r + 1 ≤ D by omega) (Int.le_of_lt dB_pos)
    rw [Int.add_mul] at this
    omega
  have x0 : 0 ≤ x := by omega
  have x1 : x < D * dB := by omega
  have q0 : 0 ≤ x / D := Int.ediv_nonneg x0 (Int.le_of_lt D0)
  have q1 : x / D < dB := Int.ediv_lt_of_lt_mul D0 (by rw [Int.mul_comm]; exact x1)
  have m0 := Int.emod_nonneg x (show D ≠ 0 by omega)
  have m1 := Int.emod_lt_of_pos x D0
  refine ⟨x0, x1, q0, q1, m0, by rw [List.length_set]; exact h1, h2.set j ⟨q0, q1⟩, m0, m1, ?_⟩
  rw [drop_setN _ (by omega), back_step hj, h5]
  show nth a j + dB * (D * valD (out.drop (j + 1)) + r) = D * (x / D + dB * valD (out.drop (j + 1))) + x % D
  have e := Int.mul_ediv_add_emod x D
  generalize valD (out.drop (j + 1)) = V at *
  generalize x / D = q at *
  generalize x % D = m at *
  have e2 : D * (q + dB * V) = D * q + dB * (D * V) := by grind
  rw [e2, Int.mul_add, Int.mul_comm dB r]
  omega
theorem PtI.done {a : List Int} {D : Int} {out : List Int} {r : Int} (h : PtI a D 0 out r) : valD out = valD a / D := by
  have h5 := h.v
  rw [List.drop_zero, List.drop_zero] at h5
  have := h.r0
  have := h.r1
  rw [h5, Int.add_comm, Int.add_mul_ediv_left _ _ (by omega), Int.ediv_eq_zero_of_lt h.r0 h.r1, Int.zero_add]
set_option maxHeartbeats 4000000 in
set_option maxRecDepth 100000 in
theorem r6_Part (va : Value) (a : List Int) (D : Int) (w : World) (ha : Sl w va a) (ca : Dg a) (D0 : 1 ≤ D) (D1 : D ≤ 268435456) (la : a.length ≤ 100000) :
    Calls Tryz.prog 349 #[va, .int .i64 D] w (RwD w fun l => Can l ∧ valD l = valD a / D ∧ l.length ≤ a.length) := by
  obtain ⟨a1, c1, rfl, hc1, hw1, hx1⟩ := ha
  have HX1 := Lib.hid hx1
  have HCA := Lib.hid ca
  obtain ⟨m, hm⟩ : ∃ m, a.length = m := ⟨_, rfl⟩
  have HE := Lib.hid hm
  have HST := Lib.hid (PtI.start a D0)
  rw [hm] at HST
  have HT := Lib.hid (fun v l W base (h : Ow W base v l) (hl : l.length ≤ 1000000) => dg_Trim v l W base h hl)
  rw [hm] at la ⊢
  have hmk := make_int (m := m) (by omega)
  have HOM : Hid (Ow (lay w [.inl (.cells (madeCells #[.int .i64 0] m) 3 (0, 0))]) (lay w []).heap.size (.slice (some ⟨posn w [], 0, none⟩) m m) (List.replicate m 0)) := Lib.hid (ow_made (L := []) (by omega))
  have km : IntKind.i64.wrap ((m : Int) - 1) = (m : Int) - 1 := IntWalk.i64_in _ (by omega)
  have nD : D ≠ 0 := by omega
  clear hx1 hw1 ca hm
  have hg : w.heap.size ≤ posn w [] := Nat.le_refl _
  refine lay_start ?_
  go_enter Tryz.func349, Tryz.ntmps349
  go_wp2_with fail
  obtain ⟨d0, e0⟩ : ∃ x, lay w [.inl (.cells (madeCells #[.int .i64 0] m) 3 (0, 0))] = lay w [.inr x] := by
    obtain ⟨y, hy⟩ := lay_ex w [.inl (.cells (madeCells #[.int .i64 0] m) 3 (0, 0))]
    exact ⟨y, hy⟩
  rw [e0] at HOM ⊢
  clear e0 hmk km
  go_loopw [6, 7] (fun v6 v7 wr => ∃ (j : Nat) (t r : Int) (out : List Int) (dd : Ext), j ≤ m ∧ t = (j : Int) - 1 ∧ v7 = .int .i64 t ∧ v6 = .int .i64 r ∧ wr = lay w [.inr dd] ∧ Ow (lay w [.inr dd]) (lay w []).heap.size (.slice (some ⟨posn w [], 0, none⟩) m m) out ∧ PtI a D j out r) (fun _ v7 _ => (intOf v7 + 1).toNat)
  case atStart => exact ⟨m, _, 0, _, d0, Nat.le_refl _, rfl, rfl, rfl, rfl, HOM.out, HST.out⟩
  case round =>
    obtain ⟨j, t, r, out, dd, hj, ht, rfl, rfl, rfl, hO, hI⟩ := hrel
    have HO := Lib.hid (And.intro hO hI)
    have hr0 := hI.r0
    have hr1 := hI.r1
    have HL2 : Hid (out.length = m) := Lib.hid (by rw [hI.len]; exact HE.out)
    clear hO hI
    by_cases h0 : j = 0
    · subst h0
      obtain rfl : t = -1 := by omega
      clear ht hj
      have HD := Lib.hid HO.out.2.done
      have HTr := Lib.hid (trim_ok out.length out rfl HO.out.2.dg)
      have HLn := Lib.hid (trim_len out)
      go_wp2_with fail
      refine (HT.out _ _ _ _ HO.out.1 (by rw [HL2.out]; omega)).mono ?_
      rintro e w' ⟨v', d', rfl, rfl, hv'⟩
      rw [lay_bw] at hv' ⊢
      obtain ⟨d3, e3⟩ : ∃ x, lay w [.inr d', .inr dd] = lay w [.inr x] := ⟨_, bw_bw _ _ _⟩
      rw [e3] at hv' ⊢
      clear e3
      have HV2 := Lib.hid hv'
      clear hv'
      go_wp2_with fail
      go_ret
      exact ⟨trimD out, _, d3, ⟨HTr.out.1, by rw [HTr.out.2]; exact HD.out, by have := HLn.out; rw [HL2.out] at this; exact this⟩, rfl, rfl, HV2.out.le (lay_below (w := w) (A := [.inr dd]) (B := [])).size⟩
    · obtain ⟨i, rfl⟩ : ∃ i, j = i + 1 := ⟨j - 1, by omega⟩
      obtain rfl : t = (i : Int) := by omega
      have him : i < m := by omega
      have x1 : (i : Int) < (m : Int) := by omega
      have x0 : (0 : Int) ≤ (i : Int) := by omega
      have w3 : IntKind.i64.wrap ((i : Int) - 1) = (i : Int) - 1 := IntWalk.i64_in _ (by omega)
      obtain ⟨b1, o1, rfl, hb1, hcell1⟩ := HX1.out (by intro h; have := HE.out; rw [h] at this; simp at this; omega)
      have k1 := hcell1 i (by rw [HE.out]; exact him)
      have na := HCA.out.nth i
      obtain ⟨X, hX⟩ : ∃ X, r * dB + nth a i = X := ⟨_, rfl⟩
      obtain ⟨s1, s2, s3, s4, s5, s6⟩ := HO.out.2.step HCA.out (by rw [HE.out]; exact him) hX.symm
      rw [dB_eq] at na hX s2 s4
      have HS6 := Lib.hid s6
      obtain ⟨P, hP⟩ : ∃ P, r * 268435456 = P := ⟨_, rfl⟩
      rw [hP] at hX
      have kP : IntKind.i64.wrap P = P := IntWalk.i64_in _ (by omega)
      have kX : IntKind.i64.wrap X = X := IntWalk.i64_in _ (by omega)
      have e1 : X.tmod D = X % D := Int.tmod_eq_emod_of_nonneg s1
      have e2 : X.tdiv D = X / D := Int.tdiv_eq_ediv_of_nonneg s1
      have s7 := Int.emod_lt_of_pos X (show 0 < D by omega)
      obtain ⟨R, hR⟩ : ∃ R, X % D = R := ⟨_, rfl⟩
      obtain ⟨K, hK⟩ : ∃ K, X / D = K := ⟨_, rfl⟩
      rw [hR] at e1 HS6 s5 s7
      rw [hK] at e2 HS6 s3 s4
      have kR : IntKind.i64.wrap R = R := IntWalk.i64_in _ (by omega)
      have kK : IntKind.i64.wrap K = K := IntWalk.i64_in _ (by omega)
      have lw : (Lit.int .i64 K).wf = true := lit_b (by omega)
      have fz := HO.out.1.froz i
      have co := HO.out.1.cell (i := i) (by rw [HL2.out]; exact him)
      obtain ⟨d4, e4, hO4⟩ := ow_store1 i HO.out.1 hg lw
      have HO4 := Lib.hid hO4
      have HI1 := Lib.hid him
      clear hO4 hcell1 hR hK s6 h0 ht hj
      generalize nth a i = A at *
      go_wp2_with fail
      go_roundw
      case rel => exact ⟨i, _, R, out.set i K, d4, Nat.le_of_lt HI1.out, rfl, rfl, rfl, rfl, HO4.out, HS6.out⟩
      case measure => simp [intOf]
end Go.Proofs.YtnnmfdeeicpdlaaGreat
/- Sines and cosines by 22 terms of their series, and a rotation of numbers of 160 bits that is near to them. No program in sight. -/
namespace Go.Proofs.YtnnmfdeeicpdlaaGreat

def sinU (n : Nat) : Rat := xi n * (1 - tay (xi n * xi n) 2 22)
def cosU (n : Nat) : Rat := 1 - tay (xi n * xi n) 1 22
def litAU : List Int := adI [(dnT (piD * piD) 2 22 : Int)] (scI (-1) (liT (piN * piN) (piD * piD) 2 22))
def litBU : List Int := adI [(dnT (piD * piD) 1 22 : Int)] (scI (-1) (liT (piN * piN) (piD * piD) 1 22))
def facU : Nat := piD * dnT (piD * piD) 2 22 * dnT (piD * piD) 1 22
def lisSU : List Int := scI (dnT (piD * piD) 1 22 : Int) (0 :: inI (scI (piN : Int) litAU))
def lisCU : List Int := scI ((piD * dnT (piD * piD) 2 22 : Nat) : Int) (inI litBU)
theorem lisSU_ok (n : Nat) : sinU n * (facU : Rat) = ((evI lisSU (n : Int) : Int) : Rat) := by
  have h := lis_ok (a := piN) piD_ne n 2 22 (by decide)
  have hp : (piD : Rat) ≠ 0 := by exact_mod_cast piD_ne
  unfold sinU lisSU facU xi litAU
  simp only [evI_sc, evI, evI_in]
  rw [show ((n : Int) * (n : Int)) = ((n * n : Nat) : Int) by push_cast; rfl]
  push_cast at h ⊢
  rw [← h]
  generalize tay _ 2 22 = T
  generalize (dnT _ 2 22 : Rat) = F
  generalize (dnT _ 1 22 : Rat) = G
  generalize (piN : Rat) = A at *
  generalize (piD : Rat) = B at *
  grind
theorem lisCU_ok (n : Nat) : cosU n * (facU : Rat) = ((evI lisCU (n : Int) : Int) : Rat) := by
  have h := lis_ok (a := piN) piD_ne n 1 22 (by decide)
  unfold cosU lisCU facU xi litBU
  simp only [evI_sc, evI_in]
  rw [show ((n : Int) * (n : Int)) = ((n * n : Nat) : Int) by push_cast; rfl]
  push_cast at h ⊢
  rw [← h]
  generalize tay _ 1 22 = T
  generalize (dnT _ 2 22 : Rat) = F
  generalize (dnT _ 1 22 : Rat) = G
  generalize (piD : Rat) = B at *
  grind
def stpSU : List Int := adI (scI (facU : Int) (shI lisSU)) (adI (scI (-(evI lisCU 1)) lisSU) (scI (-(evI lisSU 1)) lisCU))
def stpCU : List Int := adI (scI (facU : Int) (shI lisCU)) (adI (scI (-(evI lisCU 1)) lisCU) (scI (evI lisSU 1) lisSU))
def k160 : Nat := 1461501637330902918203684832716283019655932542976
theorem stpSU_ab : abI stpSU 2700000 * k160 ≤ facU * facU := by decide +kernel
theorem stpCU_ab : abI stpCU 2700000 * k160 ≤ facU * facU := by decide +kernel
theorem facU_pos : 0 < facU := by decide +kernel
theorem facU_rat : (0 : Rat) < (facU : Rat) := by exact_mod_cast facU_pos
theorem k160_rat : (0 : Rat) < (k160 : Rat) := by exact_mod_cast (show 0 < k160 by decide)
theorem eps_ofU {M W : Nat} (h : M * k160 ≤ W) : (M : Rat) ≤ 1 / (k160 : Rat) * (W : Rat) := by
  have h1 : (M : Rat) * (k160 : Rat) ≤ (W : Rat) := by exact_mod_cast h
  have h0 := k160_rat
  have hi : 0 < 1 / (k160 : Rat) := by rw [Rat.div_def, Rat.one_mul]; exact Rat.inv_pos.2 h0
  have h2 := Rat.mul_le_mul_of_nonneg_left h1 (Rat.le_of_lt hi)
  have h3 : 1 / (k160 : Rat) * (k160 : Rat) = 1 := by rw [Rat.div_mul_cancel (by grind)]
  generalize 1 / (k160 : Rat) = i at *
  generalize (k160 : Rat) = k at *
  have e : i * ((M : Rat) * k) = i * k * (M : Rat) := by grind
  rw [h3, Rat.one_mul] at e
  rw [e] at h2
  exact h2
theorem sinU_step {n : Nat} (h : n ≤ 2700000) : Nr (sinU (n + 1)) (sinU n * cosU 1 + cosU n * sinU 1) (1 / (k160 : Rat)) := by
  have h1 := lisSU_ok (n + 1)
  have h2 := lisSU_ok n
  have h3 := lisCU_ok n
  have h4 := lisSU_ok 1
  have h5 := lisCU_ok 1
  have hb := Nat.le_trans (Nat.mul_le_mul_right _ (evI_ab (x := (n : Int)) (N := 2700000) (by omega) stpSU)) stpSU_ab
  have hW := facU_rat
  refine nr_of_int (W := (facU : Rat) * facU) (x := evI stpSU (n : Int)) (Rat.mul_pos hW hW) ?_ (Nat.le_refl _) (by have := eps_ofU hb; rw [Rat.natCast_mul] at this; exact this)
  unfold stpSU
  simp only [evI_ad, evI_sc, evI_sh]
  push_cast at h1 h2 h3 h4 h5 ⊢
  rw [← h1, ← h2, ← h3, ← h4, ← h5]
  grind
theorem cosU_step {n : Nat} (h : n ≤ 2700000) : Nr (cosU (n + 1)) (cosU n * cosU 1 - sinU n * sinU 1) (1 / (k160 : Rat)) := by
  have h1 := lisCU_ok (n + 1)
  have h2 := lisSU_ok n
  have h3 := lisCU_ok n
  have h4 := lisSU_ok 1
  have h5 := lisCU_ok 1
  have hb := Nat.le_trans (Nat.mul_le_mul_right _ (evI_ab (x := (n : Int)) (N := 2700000) (by omega) stpCU)) stpCU_ab
  have hW := facU_rat
  refine nr_of_int (W := (facU : Rat) * facU) (x := evI stpCU (n : Int)) (Rat.mul_pos hW hW) ?_ (Nat.le_refl _) (by have := eps_ofU hb; rw [Rat.natCast_mul] at this; exact this)
  unfold stpCU
  simp only [evI_ad, evI_sc, evI_sh]
  push_cast at h1 h2 h3 h4 h5 ⊢
  rw [← h1, ← h2, ← h3, ← h4, ← h5]
  grind
theorem cosU_in {n : Nat} (h : n ≤ 2700001) : 17 / 25 ≤ cosU n ∧ cosU n ≤ 1 := by
  have hq := sq_in (xi_in h)
  obtain ⟨t0, t1⟩ := tay_in hq.1 (by grind) (m := 22) (d := 1) (by decide)
  unfold cosU
  constructor <;> grind
theorem sinU_in {n : Nat} (h : n ≤ 2700001) : 0 ≤ sinU n ∧ sinU n ≤ xi n := by
  have hx := xi_in h
  have hq := sq_in hx
  obtain ⟨t0, t1⟩ := tay_in hq.1 (by grind) (m := 22) (d := 2) (by decide)
  unfold sinU
  have h1 : (0 : Rat) ≤ 1 - tay (xi n * xi n) 2 22 := by grind
  have h2 := rmul0 hx.1 h1
  have h3 := Rat.mul_le_mul_of_nonneg_left (show 1 - tay (xi n * xi n) 2 22 ≤ 1 by grind) hx.1
  constructor <;> grind
def s1U : Nat := 425133593245199460169970897845407932666872
def c1U : Nat := 1461501637330841085028993473485354317854231948077
theorem oneU_ab : (evI lisSU 1 * k160 - s1U * (facU : Int)).natAbs ≤ facU ∧ (evI lisCU 1 * k160 - c1U * (facU : Int)).natAbs ≤ facU := by decide +kernel
theorem oneU_near : Nr ((s1U : Rat) / (k160 : Rat)) (sinU 1) (1 / (k160 : Rat)) ∧ Nr ((c1U : Rat) / (k160 : Rat)) (cosU 1) (1 / (k160 : Rat)) := by
  obtain ⟨h1, h2⟩ := oneU_ab
  have h3 := lisSU_ok 1
  have h4 := lisCU_ok 1
  have hW := facU_rat
  have hk := k160_rat
  have hM : ((facU : Nat) : Rat) ≤ 1 / (k160 : Rat) * ((k160 : Rat) * (facU : Rat)) := by
    have : 1 / (k160 : Rat) * (k160 : Rat) = 1 := by rw [Rat.div_mul_cancel (by grind)]
    rw [← Rat.mul_assoc, this, Rat.one_mul]
    exact Rat.le_refl
  have hks : (s1U : Rat) / (k160 : Rat) * (k160 : Rat) = (s1U : Rat) := Rat.div_mul_cancel (by grind)
  have hkc : (c1U : Rat) / (k160 : Rat) * (k160 : Rat) = (c1U : Rat) := Rat.div_mul_cancel (by grind)
  constructor
  · refine (nr_of_int (W := (k160 : Rat) * (facU : Rat)) (x := evI lisSU 1 * k160 - s1U * (facU : Int)) (Rat.mul_pos hk hW) ?_ h1 hM).symm
    push_cast at h3 ⊢
    rw [← h3]
    generalize (s1U : Rat) / (k160 : Rat) = q at *
    grind
  · refine (nr_of_int (W := (k160 : Rat) * (facU : Rat)) (x := evI lisCU 1 * k160 - c1U * (facU : Int)) (Rat.mul_pos hk hW) ?_ h2 hM).symm
    push_cast at h4 ⊢
    rw [← h4]
    generalize (c1U : Rat) / (k160 : Rat) = q at *
    grind
theorem sinU_zero : sinU 0 = 0 := by unfold sinU xi; grind
theorem cosU_zero : cosU 0 = 1 := by
  have : xi 0 * xi 0 = 0 := by unfold xi; grind
  unfold cosU
  rw [this, tay_zero]
  grind
def rotU : Nat → Nat × Nat := rotV c1U s1U k160
theorem rotU_succ (r : Nat) : rotU (r + 1) = (((rotU r).1 * c1U + (rotU r).2 * s1U) / k160, ((rotU r).2 * c1U - (rotU r).1 * s1U) / k160) := rfl
theorem rotU_near : ∀ {r : Nat}, r ≤ 2700000 → Nr (((rotU r).1 : Rat) / (k160 : Rat)) (sinU r) (64 * (r : Rat) / (k160 : Rat)) ∧ Nr (((rotU r).2 : Rat) / (k160 : Rat)) (cosU r) (64 * (r : Rat) / (k160 : Rat))
  | 0, _ => by
    rw [sinU_zero, cosU_zero, show rotU 0 = (0, k160) from rfl]
    have hk : (k160 : Rat) / (k160 : Rat) = 1 := by have := k160_rat; grind
    constructor
    · constructor <;> grind
    · dsimp only
      rw [hk]
      constructor <;> grind
  | r + 1, h => by
    obtain ⟨h1, h2⟩ := rotU_near (r := r) (by omega)
    obtain ⟨h3, h4⟩ := oneU_near
    have hx := xi_in (n := r) (by omega)
    have hs := sinU_in (n := r) (by omega)
    have hc := cosU_in (n := r) (by omega)
    have hs1 := sinU_in (n := 1) (by omega)
    have hc1 := cosU_in (n := 1) (by omega)
    have hx1 := xi_one
    have hr : (r : Rat) ≤ 2700000 := by exact_mod_cast (show r ≤ 2700000 by omega)
    have hr0 : (0 : Rat) ≤ (r : Rat) := by exact_mod_cast Nat.zero_le r
    have hk : 0 < 1 / (k160 : Rat) ∧ 1 / (k160 : Rat) ≤ 1 / 10000000000000000000000000000 := by
      rw [show (k160 : Rat) = 1461501637330902918203684832716283019655932542976 from rfl]
      constructor <;> grind
    have g1 : 64 * (r : Rat) / (k160 : Rat) ≤ 1 / 100 := by
      have := rmul hr0 hr (Rat.le_of_lt hk.1) hk.2
      grind
    have st := rot_step (K := k160) (k := (k160 : Rat)) (s1 := s1U) (c1 := c1U) (by decide) rfl h1 h2 h3 h4 (by grind) hc.1 hc.2 hs1.1 (by grind) hc1.1 hc1.2 g1 (by grind) (sinU_step (n := r) (by omega)) (cosU_step (n := r) (by omega))
    rw [rotU_succ]
    have e1 : 64 * (r : Rat) / (k160 : Rat) + 64 * (r : Rat) / (k160 : Rat) / 3437000 + 4 / (k160 : Rat) + 1 / (k160 : Rat) ≤ 64 * ((r + 1 : Nat) : Rat) / (k160 : Rat) := by
      have h5 := rmul hr0 hr (Rat.le_of_lt hk.1) (show 1 / (k160 : Rat) ≤ 1 / (k160 : Rat) by exact Rat.le_refl)
      push_cast
      generalize (k160 : Rat) = k at *
      grind
    exact ⟨st.1.le e1, st.2.le e1⟩
end Go.Proofs.YtnnmfdeeicpdlaaGreat
/- No small fraction is near to the quotient of two numbers: a check by Euclid's steps, and what it shows. No program in sight. -/
namespace Go.Proofs.YtnnmfdeeicpdlaaGreat

noncomputable def euS (B T : Nat) (f : Nat) : Nat → Nat → Nat → Nat → Bool :=
  Nat.rec (motive := fun _ => Nat → Nat → Nat → Nat → Bool) (fun _ _ _ _ => false)
    (fun _ ih xa ra xb rb => Bool.rec (motive := fun _ => Bool) (Nat.ble T ra) (ih (Nat.add xb (Nat.mul (Nat.div rb ra) xa)) (Nat.mod rb ra) xa ra) (Nat.ble (Nat.add xb (Nat.mul (Nat.div rb ra) xa)) B)) f
theorem euS_s {B T f xa ra xb rb : Nat} : euS B T (f + 1) xa ra xb rb = Bool.rec (motive := fun _ => Bool) (Nat.ble T ra) (euS B T f (xb + rb / ra * xa) (rb % ra) xa ra) (Nat.ble (xb + rb / ra * xa) B) := rfl
structure EuI (s c : Int) (xa ra xb rb : Nat) (ya yb g : Int) : Prop where
  g1 : g = 1 ∨ g = -1
  d : (xa : Int) * yb - (xb : Int) * ya = g
  a : (xa : Int) * s - ya * c = g * (ra : Int)
  b : (xb : Int) * s - yb * c = -(g * (rb : Int))
theorem EuI.step {s c : Int} {xa ra xb rb : Nat} {ya yb g : Int} (h : EuI s c xa ra xb rb ya yb g) : EuI s c (xb + rb / ra * xa) (rb % ra) xa ra (yb + ((rb / ra : Nat) : Int) * ya) ya (-g) := by
  obtain ⟨g1, d, a, b⟩ := h
  have hm := Nat.div_add_mod rb ra
  have e : ((rb % ra : Nat) : Int) = (rb : Int) - ((rb / ra : Nat) : Int) * (ra : Int) := by
    have : ((ra * (rb / ra) : Nat) : Int) = (ra : Int) * ((rb / ra : Nat) : Int) := Int.natCast_mul _ _
    have h2 : ((rb / ra : Nat) : Int) * (ra : Int) = (ra : Int) * ((rb / ra : Nat) : Int) := Int.mul_comm _ _
    omega
  generalize rb / ra = q at *
  refine ⟨by omega, ?_, ?_, ?_⟩
  · push_cast; grind
  · rw [e]; push_cast; grind
  · grind
theorem EuI.far {s c : Int} {xa ra xb rb B T : Nat} {ya yb g : Int} (h : EuI s c xb rb xa ra yb ya g) (hB : B + 1 ≤ xb) (ha : T ≤ ra) {x y : Int} (x0 : 0 ≤ x) (x1 : x ≤ B) (hxy : x ≠ 0 ∨ y ≠ 0) :
    (T : Int) ≤ x * s - y * c ∨ x * s - y * c ≤ -(T : Int) := by
  obtain ⟨g1, d, b, a⟩ := h
  obtain ⟨p, hp⟩ : ∃ p, g * (x * ya - y * xa) = p := ⟨_, rfl⟩
  obtain ⟨r, hr⟩ : ∃ r, g * (y * xb - x * yb) = r := ⟨_, rfl⟩
  have gg : g * g = 1 := by rcases g1 with rfl | rfl <;> rfl
  have ex : x = p * xb + r * xa := by
    have : p * xb + r * xa = g * (x * ((xb : Int) * ya - (xa : Int) * yb)) := by rw [← hp, ← hr]; grind
    rw [this, d]; grind
  have ey : y = p * yb + r * ya := by
    have : p * yb + r * ya = g * (y * ((xb : Int) * ya - (xa : Int) * yb)) := by rw [← hp, ← hr]; grind
    rw [this, d]; grind
  have eD : x * s - y * c = g * (p * (rb : Int) - r * (ra : Int)) := by
    have : x * s - y * c = p * ((xb : Int) * s - yb * c) + r * ((xa : Int) * s - ya * c) := by rw [ex, ey]; grind
    rw [this, a, b]; grind
  have xa0 : (0 : Int) ≤ (xa : Int) := by omega
  have xb0 : (0 : Int) ≤ (xb : Int) := by omega
  have hT : (T : Int) ≤ p * (rb : Int) - r * (ra : Int) ∨ p * (rb : Int) - r * (ra : Int) ≤ -(T : Int) := by
    rcases Int.lt_trichotomy p 0 with hp0 | hp0 | hp0
    · rcases Int.lt_trichotomy r 0 with hr0 | hr0 | hr0
      · have m1 := Int.mul_le_mul_of_nonneg_right (show p ≤ -1 by omega) xb0
        have m2 := Int.mul_le_mul_of_nonneg_right (show r ≤ -1 by omega) xa0
        omega
      · subst hr0
        have m1 := Int.mul_le_mul_of_nonneg_right (show p ≤ -1 by omega) xb0
        omega
      · have m1 := Int.mul_le_mul_of_nonneg_right (show p ≤ -1 by omega) (show (0 : Int) ≤ (rb : Int) by omega)
        have m2 := Int.mul_le_mul_of_nonneg_right (show 1 ≤ r by omega) (show (0 : Int) ≤ (ra : Int) by omega)
        right; omega
    · subst hp0
      rcases Int.lt_trichotomy r 0 with hr0 | hr0 | hr0
      · have m2 := Int.mul_le_mul_of_nonneg_right (show r ≤ -1 by omega) (show (0 : Int) ≤ (ra : Int) by omega)
        left; omega
      · subst hr0
        simp at ex ey
        omega
      · have m2 := Int.mul_le_mul_of_nonneg_right (show 1 ≤ r by omega) (show (0 : Int) ≤ (ra : Int) by omega)
        right; omega
    · rcases Int.lt_trichotomy r 0 with hr0 | hr0 | hr0
      · have m1 := Int.mul_nonneg (show 0 ≤ p by omega) (show (0 : Int) ≤ (rb : Int) by omega)
        have m2 := Int.mul_le_mul_of_nonneg_right (show r ≤ -1 by omega) (show (0 : Int) ≤ (ra : Int) by omega)
        left; omega
      · subst hr0
        have m1 := Int.mul_le_mul_of_nonneg_right (show 1 ≤ p by omega) xb0
        omega
      · have m1 := Int.mul_le_mul_of_nonneg_right (show 1 ≤ p by omega) xb0
        have m2 := Int.mul_le_mul_of_nonneg_right (show 1 ≤ r by omega) xa0
        omega
  rcases g1 with rfl | rfl <;> omega
theorem brec_and {b c : Bool} (h : (Bool.rec (motive := fun _ => Bool) false c b : Bool) = true) : b = true ∧ c = true := by
  cases b
  · cases h
  · exact ⟨rfl, h⟩
theorem euS_ok {s c : Int} {B T : Nat} : ∀ (f : Nat) {xa ra xb rb : Nat} {ya yb g : Int}, EuI s c xa ra xb rb ya yb g → euS B T f xa ra xb rb = true →
    ∀ x y : Int, 0 ≤ x → x ≤ B → (x ≠ 0 ∨ y ≠ 0) → (T : Int) ≤ x * s - y * c ∨ x * s - y * c ≤ -(T : Int)
  | 0, xa, ra, xb, rb, ya, yb, g, _, h => by cases h
  | f + 1, xa, ra, xb, rb, ya, yb, g, hI, h => by
    rw [euS_s] at h
    have hn := hI.step
    cases hb : Nat.ble (xb + rb / ra * xa) B
    · rw [hb] at h
      have hb' : ¬ xb + rb / ra * xa ≤ B := fun hh => by
        have := Nat.ble_eq_true_of_le hh
        rw [hb] at this
        cases this
      exact fun x y x0 x1 hxy => hn.far (by omega) (Nat.le_of_ble_eq_true h) x0 x1 hxy
    · rw [hb] at h
      exact euS_ok f hn h
def FarV (B T s c : Nat) : Prop := ∀ x y : Int, 0 ≤ x → x ≤ B → (x ≠ 0 ∨ y ≠ 0) → (T : Int) ≤ x * (s : Int) - y * (c : Int) ∨ x * (s : Int) - y * (c : Int) ≤ -(T : Int)
theorem far_of {B T f s c : Nat} (h : euS B T f 1 s 0 c = true) : FarV B T s c := euS_ok (s := s) (c := c) f (ya := 0) (yb := 1) (g := 1) ⟨.inl rfl, by simp, by simp, by simp⟩ h
noncomputable def rotF (c1 s1 K B T se ce n : Nat) : Nat → Nat → Bool :=
  Nat.rec (motive := fun _ => Nat → Nat → Bool) (fun s c => Bool.rec (motive := fun _ => Bool) false (Nat.beq c ce) (Nat.beq s se))
    (fun _ ih s c => Bool.rec (motive := fun _ => Bool) false (ih (Nat.div (Nat.add (Nat.mul s c1) (Nat.mul c s1)) K) (Nat.div (Nat.sub (Nat.mul c c1) (Nat.mul s s1)) K)) (euS B T 60 1 s 0 c)) n
section
variable {c1 s1 K B T : Nat}
theorem rotF_ok {se ce : Nat} : ∀ (n s c : Nat), rotF c1 s1 K B T se ce n s c = true → ∀ a, rotV c1 s1 K a = (s, c) → rotV c1 s1 K (a + n) = (se, ce) ∧ ∀ r, a ≤ r → r < a + n → FarV B T (rotV c1 s1 K r).1 (rotV c1 s1 K r).2
  | 0, s, c, h, a, ha => by
    obtain ⟨h1, h2⟩ := brec_and h
    rw [Nat.eq_of_beq_eq_true h1, Nat.eq_of_beq_eq_true h2] at ha
    exact ⟨ha, fun r h3 h4 => by omega⟩
  | n + 1, s, c, h, a, ha => by
    obtain ⟨h1, h3⟩ := brec_and h
    have ha1 : rotV c1 s1 K (a + 1) = (_, _) := rfl
    rw [ha] at ha1
    obtain ⟨e, g⟩ := rotF_ok n _ _ h3 (a + 1) ha1
    refine ⟨by rw [show a + (n + 1) = a + 1 + n by omega]; exact e, fun r h4 h5 => ?_⟩
    by_cases hr : r = a
    · subst hr
      rw [ha]
      exact far_of h1
    · exact g r (by omega) (by omega)
def FarTo (c1 s1 K B T a s c : Nat) : Prop := rotV c1 s1 K a = (s, c) ∧ ∀ r, 1 ≤ r → r < a → FarV B T (rotV c1 s1 K r).1 (rotV c1 s1 K r).2
theorem FarTo.next {a s c : Nat} (h : FarTo c1 s1 K B T a s c) (n se ce : Nat) (hb : rotF c1 s1 K B T se ce n s c = true) {b : Nat} (he : a + n = b) : FarTo c1 s1 K B T b se ce := by
  obtain ⟨e, g⟩ := rotF_ok n s c hb a h.1
  subst he
  refine ⟨e, fun r h1 h2 => ?_⟩
  by_cases h3 : r < a
  · exact h.2 r h1 h3
  · exact g r (by omega) h2
end
end Go.Proofs.YtnnmfdeeicpdlaaGreat
/- Sines by floored series at any scale, near to those by 22 terms; the sign of a cross product by them. No program in sight. -/
namespace Go.Proofs.YtnnmfdeeicpdlaaGreat

theorem icast {a b : Int} (h : a ≤ b) : (a : Rat) ≤ (b : Rat) := by exact_mod_cast h
theorem icastN {n : Nat} {b : Int} (h : (n : Int) ≤ b) : (n : Rat) ≤ (b : Rat) := by exact_mod_cast h
theorem icastM {n : Nat} {b : Int} (h : b ≤ -(n : Int)) : (b : Rat) ≤ -(n : Rat) := by
  have := icast h
  rw [Rat.intCast_neg] at this
  exact this
structure MOk (M P Q : Nat) : Prop where
  pos : 0 < M
  fuel : M ≤ 2 ^ 200
  big : 1000000000000000000000 ≤ M
  p1 : P * Q ≤ piN
  p2 : piN ≤ (P + 1) * Q
  d : piD = Q * (M * 10800000)
  q : 0 < Q
def tM (P k : Nat) : Nat := k * P / 10800000
def sqM (M P k : Nat) : Nat := tM P k * tM P k / M
def sinM (M P k : Nat) : Int := altQ M (sqM M P k) 200 (tM P k) 2
def cosM (M P k : Nat) : Int := altQ M (sqM M P k) 200 M 1
section
variable {M P Q : Nat}
theorem MOk.rat (h : MOk M P Q) : (0 : Rat) < (M : Rat) := by exact_mod_cast h.pos
theorem MOk.inv (h : MOk M P Q) : 0 < 1 / (M : Rat) ∧ 1 / (M : Rat) ≤ 1 / 1000000000000000000000 := by
  have hM := h.rat
  have h2 : (1000000000000000000000 : Rat) ≤ (M : Rat) := by exact_mod_cast h.big
  have hi : 0 < 1 / (M : Rat) := by rw [Rat.div_def, Rat.one_mul]; exact Rat.inv_pos.2 hM
  refine ⟨hi, Rat.le_of_mul_le_mul_right (c := (M : Rat)) ?_ hM⟩
  rw [Rat.div_mul_cancel (by grind)]
  grind
theorem tM_near (h : MOk M P Q) {k : Nat} (hk : k ≤ 2700000) : Nr ((tM P k : Rat) / (M : Rat)) (xi k) (2 / (M : Rat)) := by
  have u1 := h.p1
  have u2 := h.p2
  have h1 := nfl (a := k * P) (K := 10800000) (by decide)
  change Nr ((tM P k : Nat) : Rat) _ _ at h1
  have hM := h.rat
  have hQ : (0 : Rat) < (Q : Rat) := by exact_mod_cast h.q
  have v1 : (P : Rat) * (Q : Rat) ≤ (piN : Rat) := by
    have := Rat.natCast_le_natCast.2 u1
    rw [Rat.natCast_mul] at this
    exact this
  have v2 : (piN : Rat) ≤ ((P : Rat) + 1) * (Q : Rat) := by
    have := Rat.natCast_le_natCast.2 u2
    rw [Rat.natCast_mul, Rat.natCast_add] at this
    exact this
  have hD : (piD : Rat) = (Q : Rat) * ((M : Rat) * 10800000) := by
    have : ((piD : Nat) : Rat) = ((Q * (M * 10800000) : Nat) : Rat) := by rw [← h.d]
    rw [this, Rat.natCast_mul, Rat.natCast_mul]
    rfl
  have hk2 : (k : Rat) ≤ 2700000 := by exact_mod_cast hk
  have hk0 : (0 : Rat) ≤ (k : Rat) := by exact_mod_cast Nat.zero_le k
  unfold xi
  rw [hD]
  rw [Rat.natCast_mul] at h1
  have hK : ((10800000 : Nat) : Rat) = 10800000 := rfl
  rw [hK] at h1
  have hN : ∃ t : Rat, (piN : Rat) = t * (Q : Rat) := ⟨(piN : Rat) / (Q : Rat), (Rat.div_mul_cancel (by grind)).symm⟩
  obtain ⟨N, hN⟩ := hN
  rw [hN] at v1 v2 ⊢
  have w1 : (P : Rat) ≤ N := Rat.le_of_mul_le_mul_right v1 hQ
  have w2 : N ≤ (P : Rat) + 1 := Rat.le_of_mul_le_mul_right v2 hQ
  clear v1 v2 u1 u2 hD hN
  generalize (P : Rat) = P' at *
  generalize ((tM P k : Nat) : Rat) = T at *
  generalize (M : Rat) = M' at *
  generalize (Q : Rat) = Q' at *
  obtain ⟨a1, a2⟩ := h1
  have hi : 0 < 1 / M' := by rw [Rat.div_def, Rat.one_mul]; exact Rat.inv_pos.2 hM
  have y1 := Rat.mul_le_mul_of_nonneg_left w1 hk0
  have y2 := Rat.mul_le_mul_of_nonneg_left w2 hk0
  have e1 : (k : Rat) * (N * Q' / (Q' * (M' * 10800000))) = (k : Rat) * N / 10800000 * (1 / M') := by grind
  have e2 : T / M' = T * (1 / M') := by grind
  have e3 : 2 / M' = 2 * (1 / M') := by grind
  rw [e1, e2, e3]
  have b1 : T ≤ (k : Rat) * N / 10800000 + 2 := by grind
  have b2 : (k : Rat) * N / 10800000 ≤ T + 2 := by grind
  have c1 := Rat.mul_le_mul_of_nonneg_right b1 (Rat.le_of_lt hi)
  have c2 := Rat.mul_le_mul_of_nonneg_right b2 (Rat.le_of_lt hi)
  constructor <;> grind
theorem sqM_near (h : MOk M P Q) {r : Nat} (hr : r ≤ 2700000) : sqM M P r ≤ M ∧ tM P r ≤ M ∧ Nr ((sqM M P r : Rat) / (M : Rat)) (xi r * xi r) (7 / (M : Rat)) ∧ (tM P r : Rat) / (M : Rat) ≤ 1 := by
  have hn := tM_near h hr
  have hx4 := xi_in (n := r) (by omega)
  obtain ⟨i0, i1⟩ := h.inv
  have hx1 : (tM P r : Rat) / (M : Rat) ≤ 1 := by
    obtain ⟨a, b⟩ := hn; grind
  have hx2 : tM P r ≤ M := by
    have h0 := h.rat
    have := Rat.mul_le_mul_of_nonneg_right hx1 (Rat.le_of_lt h0)
    rw [Rat.div_mul_cancel (by grind), Rat.one_mul] at this
    exact_mod_cast this
  have hg := nr_mulM (a := tM P r) (b := tM P r) h.pos
  have hx0 : 0 ≤ (tM P r : Rat) / (M : Rat) := nat0 h.pos
  have hp := hn.mul hn hx0 hx1 hx4.1 (show xi r ≤ 1 by grind)
  exact ⟨Nat.le_trans (mulM_le h.pos hx2) hx2, hx2, (hg.trans hp).le (by grind), hx1⟩
def tl50 : Rat := 1 / 100000000000000000000000000000000000000000000000000
theorem facU_tl {d : Nat} (h : 100000000000000000000000000000000000000000000000000 ≤ facT d 22) : 1 / (2 * (facT d 22 : Rat)) ≤ tl50 := by
  have h2 : (100000000000000000000000000000000000000000000000000 : Rat) ≤ (facT d 22 : Rat) := by exact_mod_cast h
  have h3 : (0 : Rat) < 2 * (facT d 22 : Rat) := by grind
  refine Rat.le_of_mul_le_mul_right (c := 2 * (facT d 22 : Rat)) ?_ h3
  rw [Rat.div_mul_cancel (by grind)]
  unfold tl50
  grind
theorem sinM_near (h : MOk M P Q) {r : Nat} (hr : r ≤ 2700000) : Nr ((sinM M P r : Rat) / (M : Rat)) (sinU r) (620 / (M : Rat) + tl50) := by
  obtain ⟨h1, h2, h3, h4⟩ := sqM_near h hr
  have hx4 := xi_in (n := r) (by omega)
  have hq := sq_in hx4
  have ha := altQ_ok h.pos h1 (f := 200) (t := tM P r) (d := 2) (by decide) (Nat.le_trans h2 h.fuel)
  obtain ⟨i0, i1⟩ := h.inv
  have hy0 : 0 ≤ (sqM M P r : Rat) / (M : Rat) := nat0 h.pos
  have hy1 : (sqM M P r : Rat) / (M : Rat) ≤ 1 := by obtain ⟨a, b⟩ := h3; grind
  have hx0 : 0 ≤ (tM P r : Rat) / (M : Rat) := nat0 h.pos
  have g1 := tay_arg hy0 hy1 hq.1 (by grind) h3 (m := 200) (d := 2) (by decide)
  have g2 := tay_more hq.1 (by grind) 178 (m := 22) (d := 2) (by decide)
  have g3 := (Nr.refl 1).sub (g1.trans g2)
  obtain ⟨t0, t1⟩ := tay_in hq.1 (by grind) (m := 22) (d := 2) (by decide)
  have g4 := (tM_near h hr).mul g3 hx0 h4 (show 0 ≤ 1 - tay (xi r * xi r) 2 22 by grind) (show 1 - tay (xi r * xi r) 2 22 ≤ 1 by grind)
  have hf := facU_tl (d := 2) (by decide +kernel)
  unfold sinU sinM
  refine (ha.trans g4).le ?_
  have e64 : ((200 : Nat) : Rat) = 200 := rfl
  rw [e64]
  unfold tl50 at *
  generalize (M : Rat) = M' at *
  grind
theorem cosM_near (h : MOk M P Q) {r : Nat} (hr : r ≤ 2700000) : Nr ((cosM M P r : Rat) / (M : Rat)) (cosU r) (620 / (M : Rat) + tl50) := by
  obtain ⟨h1, h2, h3, h4⟩ := sqM_near h hr
  have hx4 := xi_in (n := r) (by omega)
  have hq := sq_in hx4
  have ha := altQ_ok h.pos h1 (f := 200) (t := M) (d := 1) (by decide) h.fuel
  obtain ⟨i0, i1⟩ := h.inv
  have hy0 : 0 ≤ (sqM M P r : Rat) / (M : Rat) := nat0 h.pos
  have hy1 : (sqM M P r : Rat) / (M : Rat) ≤ 1 := by obtain ⟨a, b⟩ := h3; grind
  have g1 := tay_arg hy0 hy1 hq.1 (by grind) h3 (m := 200) (d := 1) (by decide)
  have g2 := tay_more hq.1 (by grind) 178 (m := 22) (d := 1) (by decide)
  have g3 := (Nr.refl 1).sub (g1.trans g2)
  have hf := facU_tl (d := 1) (by decide +kernel)
  have hmm : (M : Rat) / (M : Rat) = 1 := by have := h.rat; grind
  unfold cosU cosM
  rw [hmm, Rat.one_mul] at ha
  refine (ha.trans g3).le ?_
  have e64 : ((200 : Nat) : Rat) = 200 := rfl
  rw [e64]
  unfold tl50 at *
  generalize (M : Rat) = M' at *
  grind
def siM (M P k : Nat) : Int := if 2700000 < k then cosM M P (5400000 - k) else sinM M P k
def coM (M P k : Nat) : Int := if 2700000 < k then sinM M P (5400000 - k) else cosM M P k
def sU (k : Nat) : Rat := if 2700000 < k then cosU (5400000 - k) else sinU k
def cU (k : Nat) : Rat := if 2700000 < k then sinU (5400000 - k) else cosU k
theorem siM_A (k : Nat) : siM m192 piA k = siA k ∧ coM m192 piA k = coA k := ⟨rfl, rfl⟩
theorem siM_near (h : MOk M P Q) {k : Nat} (hk : k ≤ 5400000) : Nr ((siM M P k : Rat) / (M : Rat)) (sU k) (620 / (M : Rat) + tl50) ∧ Nr ((coM M P k : Rat) / (M : Rat)) (cU k) (620 / (M : Rat) + tl50) := by
  unfold siM coM sU cU
  by_cases c : 2700000 < k
  · rw [if_pos c, if_pos c, if_pos c, if_pos c]
    exact ⟨cosM_near h (by omega), sinM_near h (by omega)⟩
  · rw [if_neg c, if_neg c, if_neg c, if_neg c]
    exact ⟨sinM_near h (by omega), cosM_near h (by omega)⟩
def crM (M P k : Nat) (x y : Int) : Int := x * siM M P k - y * coM M P k
def crU (k : Nat) (x y : Int) : Rat := (x : Rat) * sU k - (y : Rat) * cU k
theorem crM_near (h : MOk M P Q) {k : Nat} (hk : k ≤ 5400000) {x y : Int} (x0 : 0 ≤ x) (x1 : x ≤ 2147483648) (y0 : 0 ≤ y) (y1 : y ≤ 2147483648) : Nr ((crM M P k x y : Rat) / (M : Rat)) (crU k x y) (4294967296 * (620 / (M : Rat) + tl50)) := by
  obtain ⟨n1, n2⟩ := siM_near h hk
  have a0 : (0 : Rat) ≤ (x : Rat) := by exact_mod_cast x0
  have a1 : (x : Rat) ≤ 2147483648 := icast x1
  have b0 : (0 : Rat) ≤ (y : Rat) := by exact_mod_cast y0
  have b1 : (y : Rat) ≤ 2147483648 := icast y1
  have m1 := n1.mulc a0 a1 n1.pos
  have m2 := n2.mulc b0 b1 n2.pos
  have m3 := m1.sub m2
  unfold crM crU
  have e : ((x * siM M P k - y * coM M P k : Int) : Rat) / (M : Rat) = (x : Rat) * ((siM M P k : Rat) / (M : Rat)) - (y : Rat) * ((coM M P k : Rat) / (M : Rat)) := by push_cast; grind
  rw [e]
  exact m3.le (by grind)
end
theorem mok192 : MOk m192 piA 18446744073709551616 := ⟨m192_pos, m192_fuel, by decide +kernel, piA_ok.1, piA_ok.2, piD_at, by decide⟩
def m84 : Nat := 19342813113834066795298816
def m112 : Nat := 5192296858534827628530496329220096
def q84 : Nat := b256 / m84
def q112 : Nat := b256 / m112
def pi84 : Nat := piN / q84
def pi112 : Nat := piN / q112
theorem mok84 : MOk m84 pi84 q84 := ⟨by decide, by decide +kernel, by decide, by decide +kernel, by decide +kernel, by decide +kernel, by decide +kernel⟩
theorem mok112 : MOk m112 pi112 q112 := ⟨by decide, by decide +kernel, by decide, by decide +kernel, by decide +kernel, by decide +kernel, by decide +kernel⟩
def gU : Rat := 1 / 2305843009213693952
def FarU (R : Nat) : Prop := ∀ r : Nat, 1 ≤ r → r ≤ R → ∀ x y : Int, 0 ≤ x → x ≤ 2147483648 → 0 ≤ y → y ≤ 2147483648 → (x ≠ 0 ∨ y ≠ 0) → gU ≤ (x : Rat) * sinU r - (y : Rat) * cosU r ∨ (x : Rat) * sinU r - (y : Rat) * cosU r ≤ -gU
theorem far_cr {R : Nat} (h : FarU R) {k : Nat} (hk : (1 ≤ k ∧ k ≤ R ∧ k ≤ 2700000) ∨ (2700000 < k ∧ k < 5400000 ∧ 5400000 - k ≤ R)) {x y : Int} (x0 : 0 ≤ x) (x1 : x ≤ 2147483648) (y0 : 0 ≤ y) (y1 : y ≤ 2147483648) (hxy : x ≠ 0 ∨ y ≠ 0) : gU ≤ crU k x y ∨ crU k x y ≤ -gU := by
  unfold crU sU cU
  rcases hk with ⟨h1, h2, h3⟩ | ⟨h1, h2, h3⟩
  · rw [if_neg (by omega), if_neg (by omega)]
    exact h k h1 h2 x y x0 x1 y0 y1 hxy
  · rw [if_pos h1, if_pos h1]
    have := h (5400000 - k) (by omega) h3 y x y0 y1 x0 x1 (by omega)
    generalize sinU (5400000 - k) = s at *
    generalize cosU (5400000 - k) = c at *
    grind
def t100 : Nat := 1267650600228229401496703205376
theorem t100_ok : 1 / 1152921504606846976 ≤ (t100 : Rat) * (1 / (k160 : Rat)) := by decide +kernel
theorem e62_ok : 4294967296 * (64 * 2700000 * (1 / (k160 : Rat))) ≤ 1 / 4611686018427387904 := by decide +kernel
theorem far_of_rot {R : Nat} (hR : R ≤ 2700000) {s c : Nat} (h : FarTo c1U s1U k160 2147483648 1267650600228229401496703205376 (R + 1) s c) : FarU R := by
  intro r h1 h2 x y x0 x1 y0 y1 hxy
  have hf : (t100 : Int) ≤ x * ((rotV c1U s1U k160 r).1 : Int) - y * ((rotV c1U s1U k160 r).2 : Int) ∨ x * ((rotV c1U s1U k160 r).1 : Int) - y * ((rotV c1U s1U k160 r).2 : Int) ≤ -(t100 : Int) := h.2 r h1 (by omega) x y x0 (by omega) hxy
  obtain ⟨n1, n2⟩ := rotU_near (r := r) (by omega)
  change Nr (((rotV c1U s1U k160 r).1 : Rat) / _) _ _ at n1
  change Nr (((rotV c1U s1U k160 r).2 : Rat) / _) _ _ at n2
  have a0 : (0 : Rat) ≤ (x : Rat) := by exact_mod_cast x0
  have a1 : (x : Rat) ≤ 2147483648 := icast x1
  have b0 : (0 : Rat) ≤ (y : Rat) := by exact_mod_cast y0
  have b1 : (y : Rat) ≤ 2147483648 := icast y1
  have m1 := n1.mulc a0 a1 n1.pos
  have m2 := n2.mulc b0 b1 n2.pos
  have m3 := m1.sub m2
  have hr : (r : Rat) ≤ 2700000 := by exact_mod_cast (show r ≤ 2700000 by omega)
  have hr0 : (0 : Rat) ≤ (r : Rat) := by exact_mod_cast Nat.zero_le r
  have hk := k160_rat
  have ht := t100_ok
  have he := e62_ok
  generalize (rotV c1U s1U k160 r).1 = S at *
  generalize (rotV c1U s1U k160 r).2 = C at *
  have e : (x : Rat) * ((S : Rat) / (k160 : Rat)) - (y : Rat) * ((C : Rat) / (k160 : Rat)) = ((x * (S : Int) - y * (C : Int) : Int) : Rat) * (1 / (k160 : Rat)) := by push_cast; grind
  have e2 : 64 * (r : Rat) / (k160 : Rat) = 64 * (r : Rat) * (1 / (k160 : Rat)) := by grind
  rw [e, e2] at m3
  have hp : 0 < 1 / (k160 : Rat) := by rw [Rat.div_def, Rat.one_mul]; exact Rat.inv_pos.2 hk
  generalize 1 / (k160 : Rat) = i at *
  clear e e2 n1 n2 m1 m2 hk
  have er := Rat.mul_le_mul_of_nonneg_right hr (Rat.le_of_lt hp)
  generalize x * (S : Int) - y * (C : Int) = D at *
  obtain ⟨m4, m5⟩ := m3
  unfold gU
  generalize sinU r = su at *
  generalize cosU r = cu at *
  rcases hf with hf | hf
  · left
    have := Rat.mul_le_mul_of_nonneg_right (icastN hf) (Rat.le_of_lt hp)
    generalize (t100 : Rat) = t at *
    grind
  · right
    have := Rat.mul_le_mul_of_nonneg_right (icastM hf) (Rat.le_of_lt hp)
    generalize (t100 : Rat) = t at *
    grind
theorem m192_40 : 1 / (m192 : Rat) ≤ 1 / 100000000000000000000000000000000000000000 := m192_big
theorem cr_prog {k : Nat} (hk : k ≤ 5400000) {x y : Int} (x0 : 0 ≤ x) (x1 : x ≤ 2147483648) (y0 : 0 ≤ y) (y1 : y ≤ 2147483648) (h : gU ≤ crU k x y ∨ crU k x y ≤ -gU) : siA k * x ≤ coA k * y ↔ crU k x y < 0 := by
  obtain ⟨n1, n2⟩ := crM_near mok192 hk x0 x1 y0 y1
  have hb := m192_40
  have e : siA k * x ≤ coA k * y ↔ crM m192 piA k x y ≤ 0 := by
    unfold crM
    rw [(siM_A k).1, (siM_A k).2, Int.mul_comm x, Int.mul_comm y]
    omega
  rw [e]
  have hM := m192_rat
  have hq : (crM m192 piA k x y : Rat) / (m192 : Rat) * (m192 : Rat) = (crM m192 piA k x y : Rat) := Rat.div_mul_cancel (by grind)
  have e620 : 620 / (m192 : Rat) = 620 * (1 / (m192 : Rat)) := by grind
  rw [e620] at n1 n2
  unfold gU at h
  unfold tl50 at n1 n2
  constructor
  · intro hc
    have hc2 : (crM m192 piA k x y : Rat) ≤ 0 := by exact_mod_cast hc
    rcases h with h | h
    · exfalso
      have hp : 0 < (crM m192 piA k x y : Rat) / (m192 : Rat) := by
        generalize (crM m192 piA k x y : Rat) / (m192 : Rat) = z at *
        generalize 1 / (m192 : Rat) = i at *
        grind
      have := Rat.mul_pos hp hM
      rw [hq] at this
      grind
    · grind
  · intro hc
    rcases h with h | h
    · grind
    · have hp : (crM m192 piA k x y : Rat) / (m192 : Rat) ≤ 0 := by
        generalize (crM m192 piA k x y : Rat) / (m192 : Rat) = z at *
        generalize 1 / (m192 : Rat) = i at *
        grind
      have := Rat.mul_le_mul_of_nonneg_right hp (Rat.le_of_lt hM)
      rw [hq, Rat.zero_mul] at this
      exact_mod_cast this
def e42 : Nat := 4398046511104
theorem i112_ok : 4294967296 * (620 * (1 / (m112 : Rat)) + tl50) < (e42 : Rat) * (1 / (m112 : Rat)) ∧ (e42 : Rat) * (1 / (m112 : Rat)) + 4294967296 * (620 * (1 / (m112 : Rat)) + tl50) < gU := by decide +kernel
theorem i84_ok : 4294967296 * (620 * (1 / (m84 : Rat)) + tl50) < (e42 : Rat) * (1 / (m84 : Rat)) := by decide +kernel
theorem cr_limbs {M P Q : Nat} (hM : MOk M P Q) (hb : 4294967296 * (620 * (1 / (M : Rat)) + tl50) < (e42 : Rat) * (1 / (M : Rat))) {k : Nat} (hk : k ≤ 5400000) {x y : Int} (x0 : 0 ≤ x) (x1 : x ≤ 2147483648) (y0 : 0 ≤ y) (y1 : y ≤ 2147483648) : ((e42 : Int) < crM M P k x y → 0 < crU k x y) ∧ (crM M P k x y < -(e42 : Int) → crU k x y < 0) := by
  obtain ⟨n1, n2⟩ := crM_near hM hk x0 x1 y0 y1
  obtain ⟨i0, i1⟩ := hM.inv
  have hq : (crM M P k x y : Rat) / (M : Rat) = (crM M P k x y : Rat) * (1 / (M : Rat)) := by grind
  have e620 : 620 / (M : Rat) = 620 * (1 / (M : Rat)) := by grind
  rw [hq, e620] at n1 n2
  clear hq e620 i1 hM
  generalize crM M P k x y = D at *
  generalize 1 / (M : Rat) = i at *
  generalize crU k x y = cu at *
  constructor
  · intro h
    have := Rat.mul_le_mul_of_nonneg_right (icastN (Int.le_of_lt h)) (Rat.le_of_lt i0)
    generalize (e42 : Rat) = t at *
    generalize tl50 = u at *
    grind
  · intro h
    have := Rat.mul_le_mul_of_nonneg_right (icastM (Int.le_of_lt h)) (Rat.le_of_lt i0)
    generalize (e42 : Rat) = t at *
    generalize tl50 = u at *
    grind
theorem cr_four {k : Nat} (hk : k ≤ 5400000) {x y : Int} (x0 : 0 ≤ x) (x1 : x ≤ 2147483648) (y0 : 0 ≤ y) (y1 : y ≤ 2147483648) (h : gU ≤ crU k x y ∨ crU k x y ≤ -gU) : (e42 : Int) < crM m112 pi112 k x y ∨ crM m112 pi112 k x y < -(e42 : Int) := by
  obtain ⟨n1, n2⟩ := crM_near mok112 hk x0 x1 y0 y1
  obtain ⟨i0, i1⟩ := mok112.inv
  have hq : (crM m112 pi112 k x y : Rat) / (m112 : Rat) = (crM m112 pi112 k x y : Rat) * (1 / (m112 : Rat)) := by grind
  have e620 : 620 / (m112 : Rat) = 620 * (1 / (m112 : Rat)) := by grind
  rw [hq, e620] at n1 n2
  have hb := i112_ok.2
  clear hq e620 i1
  generalize crM m112 pi112 k x y = D at *
  generalize 1 / (m112 : Rat) = i at *
  generalize crU k x y = cu at *
  by_cases c1 : (e42 : Int) < D
  · exact .inl c1
  · by_cases c2 : D < -(e42 : Int)
    · exact .inr c2
    · exfalso
      have d1 : (D : Rat) ≤ (e42 : Rat) := by
        have := icast (show D ≤ (e42 : Int) by omega)
        exact this
      have d2 : -(e42 : Rat) ≤ (D : Rat) := by
        have := icast (show -(e42 : Int) ≤ D by omega)
        rw [Rat.intCast_neg] at this
        exact this
      have m1 := Rat.mul_le_mul_of_nonneg_right d1 (Rat.le_of_lt i0)
      have m2 := Rat.mul_le_mul_of_nonneg_right d2 (Rat.le_of_lt i0)
      generalize (e42 : Rat) = t at *
      generalize tl50 = u at *
      generalize gU = g at *
      grind
end Go.Proofs.YtnnmfdeeicpdlaaGreat
/- The reference's limbs: Unit, Drop, pi, Pi. -/
namespace Go.Proofs.YtnnmfdeeicpdlaaGreat
set_option maxHeartbeats 2000000
set_option maxRecDepth 100000
open Go.RowKit

theorem repl_set (k : Nat) : (List.replicate (k + 1) (0 : Int)).set k 1 = List.replicate k 0 ++ [1] := by
  rw [List.replicate_succ', List.set_append_right (h := by rw [List.length_replicate]; exact Nat.le_refl _)]
  simp
theorem unit_ok2 (k : Nat) : Can ((List.replicate (k + 1) (0 : Int)).set k 1) ∧ valD ((List.replicate (k + 1) (0 : Int)).set k 1) = dB ^ k ∧ ((List.replicate (k + 1) (0 : Int)).set k 1).length = k + 1 := by
  have hd : Dg (List.replicate k 0) := fun d hd => by rw [List.eq_of_mem_replicate hd]; exact ⟨Int.le_refl _, dB_pos⟩
  rw [repl_set]
  refine ⟨Can.snoc hd (by decide) (by decide), ?_, by simp⟩
  rw [valD_snoc, valD_zero, List.length_replicate]
  omega
theorem r6_Unit (k : Nat) (hk : k ≤ 100) (w : World) :
    Calls Tryz.prog 297 #[.int .i64 (k : Int)] w (RwD w fun l => Can l ∧ valD l = dB ^ k ∧ l.length = k + 1) := by
  have HU := Lib.hid (unit_ok2 k)
  have kk : IntKind.i64.wrap ((k : Int) + 1) = ((k + 1 : Nat) : Int) := by rw [IntWalk.i64_in _ (by omega)]; omega
  have hmk := make_int (m := k + 1) (by omega)
  have HOM : Hid (Ow (lay w [.inl (.cells (madeCells #[.int .i64 0] (k + 1)) 3 (0, 0))]) (lay w []).heap.size (.slice (some ⟨posn w [], 0, none⟩) ((k + 1 : Nat) : Nat) (k + 1)) (List.replicate (k + 1) 0)) := Lib.hid (ow_made (L := []) (by omega))
  obtain ⟨n, hn⟩ : ∃ n, k + 1 = n := ⟨_, rfl⟩
  rw [hn] at kk hmk HOM HU
  have hg : w.heap.size ≤ posn w [] := Nat.le_refl _
  have x0 : (0 : Int) ≤ (k : Int) := by omega
  have x1 : (k : Int) < (n : Int) := by omega
  refine lay_start ?_
  go_enter Tryz.func297, Tryz.ntmps297
  obtain ⟨d0, e0⟩ : ∃ x, lay w [.inl (.cells (madeCells #[.int .i64 0] n) 3 (0, 0))] = lay w [.inr x] := by
    obtain ⟨y, hy⟩ := lay_ex w [.inl (.cells (madeCells #[.int .i64 0] n) 3 (0, 0))]
    exact ⟨y, hy⟩
  have hmk2 : (Instr.makeSlice 112 (.int .i64 (n : Int)) (.int .i64 (n : Int))).run Tryz.prog (lay w []) = .ok (.slice (some ⟨posn w [], 0, none⟩) n n) (lay w [.inr d0]) := by
    rw [hmk, ← e0]; rfl
  rw [e0] at HOM
  have fz := HOM.out.froz k
  have co := HOM.out.cell (i := k) (by rw [List.length_replicate]; omega)
  obtain ⟨d4, e4, hO4⟩ := ow_store1 k (x := 1) HOM.out hg (by decide)
  have HO4 := Lib.hid hO4
  have HU2 := Lib.hid HU.out
  have HN := Lib.hid hn
  clear hO4 hmk e0 hn HU
  go_wp2_with fail
  go_ret
  exact ⟨_, _, d4, by have := HU2.out; rw [← HN.out] at this ⊢; exact this, rfl, rfl, HO4.out⟩
theorem drop_can {l : List Int} (h : Can l) (k : Nat) : Can (l.drop k) := by
  refine ⟨h.1.drop k, ?_⟩
  by_cases hk : k < l.length
  · rw [List.getLast?_drop, if_neg (by omega)]
    exact h.2
  · rw [List.drop_of_length_le (by omega)]
    simp
theorem drop_val {l : List Int} (h : Dg l) (k : Nat) : valD (l.drop k) = valD l / dB ^ k := by
  by_cases hk : k ≤ l.length
  · have e := valD_app (l.take k) (l.drop k)
    rw [List.take_append_drop, List.length_take, Nat.min_eq_left hk] at e
    have b := valD_bd (h.take k)
    rw [List.length_take, Nat.min_eq_left hk] at b
    have hp := dB_pow_pos k
    rw [e, Int.add_mul_ediv_left _ _ (by omega), Int.ediv_eq_zero_of_lt b.1 b.2, Int.zero_add]
  · rw [List.drop_of_length_le (by omega)]
    have b := valD_bd h
    have hp := dB_pow_le (a := l.length) (b := k) (by omega)
    rw [Int.ediv_eq_zero_of_lt b.1 (by omega)]
    rfl
theorem r6_Drop (v : Value) (a : List Int) (k : Nat) (w : World) (ha : Sl w v a) :
    Calls Tryz.prog 351 #[v, .int .i64 (k : Int)] w fun e w' => ∃ v' d, e = .returned v' ∧ w' = bw w d ∧ Sl (bw w d) v' (a.drop k) := by
  have HS := Lib.hid ha
  obtain ⟨a1, cap, rfl, hc, hw, hx⟩ := ha
  obtain ⟨m, hm⟩ : ∃ m, a.length = m := ⟨_, rfl⟩
  have HM := Lib.hid hm
  by_cases h : m ≤ k
  · have hd : a.drop k = [] := List.drop_of_length_le (by omega)
    rw [hd]
    rw [hm] at hc HS ⊢
    have x1 : (m : Int) ≤ (k : Int) := by omega
    clear hx hw hd hm HS
    refine lay_start ?_
    go_enter Tryz.func351, Tryz.ntmps351
    go_wp2_with fail
    go_ret
    exact ⟨_, noExt _, rfl, (bw_noExt _).symm, Sl.nil _⟩
  · obtain ⟨b, o, rfl, hb, hcell⟩ := hx (by intro e; rw [e] at hm; simp at hm; omega)
    rw [hm] at hc HS ⊢
    have HC2 : Hid (Sl w (.slice (some ⟨b, o + k, none⟩) (m - k) (cap - k)) (a.drop k)) := Lib.hid (by
      have := sl_cut (f := k) (k := m - k) (c := cap - k) HS.out (by rw [hm]; omega) (by omega)
      rwa [List.take_of_length_le (l := a.drop k) (by rw [List.length_drop, hm]; exact Nat.le_refl _)] at this)
    have x1 : ¬ (m : Int) ≤ (k : Int) := by omega
    have x2 : (k : Int) ≤ (cap : Int) := by omega
    have x3 : (k : Int) ≤ (m : Int) := by omega
    have x4 : (m : Int) ≤ (cap : Int) := by omega
    have x5 : k < cap := by omega
    have x6 : ¬ cap = k := by omega
    have x0 : (0 : Int) ≤ (k : Int) := by omega
    clear hcell hw HS hm
    refine lay_start ?_
    go_enter Tryz.func351, Tryz.ntmps351
    go_wp2_with fail
    go_ret
    exact ⟨_, rfl, noExt w, (bw_noExt w).symm, by rw [bw_noExt]; exact HC2.out⟩
def piLm : List Int := [38008488, 142975752, 221327768, 170787696, 120867392, 154673705, 166927616, 137296536, 247785160, 155527201, 241405185, 58179156]
theorem piLm_len : piLm.length = 12 := rfl
theorem ow_litsN {w : World} {L : List (Obj ⊕ Ext)} {cs : Array Value} (l : List Int) (hc : cs.toList = l.map (Value.int .i64)) (hl : l.length ≤ 1000) (hw : ∀ i, i < l.length → (Lit.int .i64 (nth l i)).wf = true) :
    Ow (lay w (.inl (.cells cs 3 (0, 0)) :: L)) (lay w L).heap.size (.slice (some ⟨posn w (shp L), 0, none⟩) l.length l.length) l := by
  rw [← lay_size w L]
  refine ⟨?_, hw⟩
  have := World.ownsRow_lit (base := (lay w L).heap.size) (e := 3) (size := 1) (lay w L) cs l.length (Nat.le_refl _) (by unfold maxLen; omega) (by rw [← Array.length_toList, hc]; simp)
  rw [hc] at this
  exact this
theorem r6_pi (w : World) : Calls Tryz.prog 358 #[] w (RwD w fun l => l = piLm) := by
  refine lay_start ?_
  go_enter Tryz.func358, Tryz.ntmps358
  go_wp2_with fail
  go_ret
  obtain ⟨y, hy⟩ := lay_ex w [.inl (.cells #[.int .i64 38008488, .int .i64 142975752, .int .i64 221327768, .int .i64 170787696, .int .i64 120867392, .int .i64 154673705, .int .i64 166927616, .int .i64 137296536, .int .i64 247785160, .int .i64 155527201, .int .i64 241405185, .int .i64 58179156] 3 (0, 0))]
  refine ⟨piLm, _, y, rfl, rfl, hy, ?_⟩
  rw [← hy]
  exact ow_litsN (L := []) piLm rfl (by decide) (fun i hi => by
    rw [piLm_len] at hi
    have : ∀ j : Fin 12, (Lit.int .i64 (nth piLm j.1)).wf = true := by decide
    exact this ⟨i, hi⟩)
def PiO (k j : Nat) : List Int := ((piLm.take k).drop j).reverse
theorem piO_start (k : Nat) (hk : k ≤ 12) : PiO k k = [] := by
  unfold PiO
  rw [List.drop_of_length_le (by rw [List.length_take, piLm_len]; omega)]
  rfl
theorem piO_step {k j : Nat} (hk : k ≤ 12) (hj : j < k) : PiO k (j + 1) ++ [nth piLm j] = PiO k j := by
  unfold PiO
  rw [List.drop_eq_getElem_cons (l := piLm.take k) (i := j) (by rw [List.length_take, piLm_len]; omega), List.reverse_cons, List.getElem_take, ← nth_in (l := piLm) (by rw [piLm_len]; omega)]
theorem piO_len {k j : Nat} : (PiO k j).length ≤ 12 := by
  unfold PiO
  rw [List.length_reverse, List.length_drop, List.length_take, piLm_len]
  omega
theorem r6_PiL (k : Nat) (hk : k ≤ 12) (w : World) : Calls Tryz.prog 350 #[.int .i64 (k : Int)] w (RwD w fun l => l = PiO k 0 ++ [3]) := by
  have km : IntKind.i64.wrap ((k : Int) - 1) = (k : Int) - 1 := IntWalk.i64_in _ (by omega)
  refine lay_start ?_
  go_enter Tryz.func350, Tryz.ntmps350
  go_wp2_with fail
  refine (r6_pi _).mono ?_
  rintro e w' ⟨l, v, d1, rfl, rfl, rfl, hP⟩
  obtain ⟨g, cap, rfl, hg1, hg2, hg3, hg4⟩ := hP.form1 (by rw [piLm_len]; decide)
  rw [piLm_len] at hP hg3 ⊢
  have HP := Lib.hid hP
  rw [lay_bw]
  rw [lay_bw] at HP
  clear hP
  go_wp2_with fail
  go_loopw [4, 5] (fun v4 v5 wr => ∃ (j : Nat) (t : Int) (dd : Ext), j ≤ k ∧ t = (j : Int) - 1 ∧ v5 = .int .i64 t ∧ wr = lay w [.inr dd, .inr d1] ∧ Ow (lay w [.inr dd, .inr d1]) (lay w [.inr d1]).heap.size v4 (PiO k j)) (fun _ v5 _ => (intOf v5 + 1).toNat)
  case atStart =>
    rw [lay_bw] at *
    exact ⟨k, _, noExt _, Nat.le_refl _, rfl, rfl, (bw_noExt _).symm, by rw [piO_start k hk]; exact Ow.nil _ _⟩
  case round =>
    obtain ⟨j, t, dd, hj, ht, rfl, rfl, hO⟩ := hrel
    have HO := Lib.hid hO
    clear hO
    by_cases h0 : j = 0
    · subst h0
      obtain rfl : t = -1 := by omega
      clear ht hj
      have hlen : (PiO k 0).length ≤ 1000000000 := Nat.le_trans piO_len (by decide)
      go_wp2_with (first | (at_builtin; refine push_int rfl _ _ rfl (lay w [.inr d1]) _ (3) 3 _ _ _ ?_ (ow_on (A := [_]) HO.out) ?_ rfl rfl hlen (by decide) ?_; exact lay_below (A := [_, _]); exact lay_get w _ 0 _ rfl; intro v' d' hv'))
      go_ret
      obtain ⟨y, hy⟩ := lay_ex w [.inr d', .inr d1]
      refine ⟨_, _, y, rfl, rfl, hy, ?_⟩
      rw [← hy]
      exact hv'.le (lay_below (w := w) (A := [.inr d1]) (B := [])).size
    · obtain ⟨i, rfl⟩ : ∃ i, j = i + 1 := ⟨j - 1, by omega⟩
      obtain rfl : t = (i : Int) := by omega
      have hik : i < k := by omega
      have w3 : IntKind.i64.wrap ((i : Int) - 1) = (i : Int) - 1 := IntWalk.i64_in _ (by omega)
      have x0 : (0 : Int) ≤ (i : Int) := by omega
      have x1 : (i : Int) < ((12 : Nat) : Int) := by omega
      have x2 : (i : Int) < 12 := by omega
      have co : (lay w [.inr dd, .inr d1]).cell? ⟨g, i, none⟩ = some (.int .i64 (nth piLm i)) := (ow_on (A := [.inr dd]) HP.out).cell (i := i) (by rw [piLm_len]; omega)
      have lw := HP.out.2 i (by rw [piLm_len]; omega)
      have hlen : (PiO k (i + 1)).length ≤ 1000000000 := Nat.le_trans piO_len (by decide)
      have HST := Lib.hid (piO_step hk hik)
      have HK := Lib.hid hik
      clear h0 hj ht
      generalize nth piLm i = X at *
      go_wp2_with (first | (at_builtin; refine push_int rfl _ _ rfl (lay w [.inr d1]) _ (X) 3 _ _ _ ?_ (ow_on (A := [_]) HO.out) ?_ rfl rfl hlen lw ?_; exact lay_below (A := [_, _]); exact lay_get w _ 0 _ rfl; intro v' d' hv'))
      rw [HST.out] at hv'
      have HV := Lib.hid hv'
      clear hv'
      go_wp2_with fail
      go_roundw
      case rel => exact ⟨i, _, d', Nat.le_of_lt HK.out, rfl, rfl, rfl, HV.out⟩
      case measure => simp [intOf]
def piK (k : Nat) : Nat := if k = 3 then pi84 else pi112
theorem piK_ok {k : Nat} (hk : k = 3 ∨ k = 4) : Can (PiO k 0 ++ [3]) ∧ valD (PiO k 0 ++ [3]) = (piK k : Int) ∧ (PiO k 0 ++ [3]).length = k + 1 := by
  have d3 : Dg (PiO 3 0) := by unfold Dg; decide
  have d4 : Dg (PiO 4 0) := by unfold Dg; decide
  rcases hk with rfl | rfl
  · exact ⟨Can.snoc d3 (by decide) (by decide), by decide +kernel, by decide⟩
  · exact ⟨Can.snoc d4 (by decide) (by decide), by decide +kernel, by decide⟩
theorem r6_Pi (k : Nat) (hk : k = 3 ∨ k = 4) (w : World) : Calls Tryz.prog 350 #[.int .i64 (k : Int)] w (RwD w fun l => Can l ∧ valD l = (piK k : Int) ∧ l.length = k + 1) :=
  (r6_PiL k (by omega) w).mono fun e w' ⟨l, v, d, hl, h1, h2, h3⟩ => ⟨l, v, d, by rw [hl]; exact piK_ok hk, h1, h2, h3⟩
end Go.Proofs.YtnnmfdeeicpdlaaGreat
/- The reference's limbs: series. -/
namespace Go.Proofs.YtnnmfdeeicpdlaaGreat
open Go.RowKit

theorem altQ_in {M sq : Nat} (hM : 0 < M) (hsq : sq ≤ M) : ∀ {f t d : Nat}, 1 ≤ d → 0 ≤ altQ M sq f t d ∧ altQ M sq f t d ≤ (t : Int)
  | 0, t, d, _ => ⟨Int.le_refl _, Int.natCast_nonneg t⟩
  | f + 1, t, d, hd => by
    have hn := nexQ_le (t := t) hM hsq hd
    obtain ⟨a, b⟩ := altQ_in hM hsq (f := f) (t := nexQ M sq t d) (d := d + 2) (by omega)
    unfold altQ
    omega
def altR (M s t d : Nat) : Int := altQ M s 200 t d
def p200N : Nat := 2 ^ 200
theorem altR_zero {M s d : Nat} : altR M s 0 d = 0 := altQ_zero
theorem altR_next {M s t d : Nat} (hM : 0 < M) (hs : s ≤ M) (hd : 1 ≤ d) (ht : t < p200N) : altR M s t d = (t : Int) - altR M s (nexQ M s t d) (d + 2) := altQ_next hM hs hd ht
theorem altR_in {M s t d : Nat} (hM : 0 < M) (hs : s ≤ M) (hd : 1 ≤ d) : 0 ≤ altR M s t d ∧ altR M s t d ≤ (t : Int) := altQ_in hM hs hd
structure SerJ (M s t0 d0 i t : Nat) (p q : Int) : Prop where
  inv : p - q + (if i % 2 = 0 then altR M s t (d0 + 2 * i) else -(altR M s t (d0 + 2 * i))) = altR M s t0 d0
  small : t * 2 ^ i ≤ t0
theorem SerJ.start (M s t0 d0 : Nat) : SerJ M s t0 d0 0 t0 0 0 := ⟨by simp, by simp⟩
section
variable {M s t0 d0 i t : Nat} {p q : Int}
theorem SerJ.le (h : SerJ M s t0 d0 i t p q) : t ≤ t0 := by
  have h1 := h.small
  have : 1 ≤ 2 ^ i := Nat.one_le_two_pow
  have := Nat.mul_le_mul_left t this
  omega
theorem SerJ.few (h : SerJ M s t0 d0 i t p q) (ht : t ≠ 0) (h0 : t0 < p200N) : i < 200 := by
  have h1 := h.small
  rcases Nat.lt_or_ge i 200 with c | c
  · exact c
  · have h2 : p200N ≤ 2 ^ i := Nat.pow_le_pow_right (by decide) c
    have h3 := Nat.mul_le_mul_right (2 ^ i) (show 1 ≤ t by omega)
    generalize 2 ^ i = x at *
    generalize p200N = y at *
    omega
theorem ser_ar1 {p q t C X : Int} (h : p - q + (t - X) = C) : p + t - q + -X = C := by omega
theorem ser_ar2 {p q t C X : Int} (h : p - q + -(t - X) = C) : p - (q + t) + X = C := by omega
theorem ser_ar3 {p q C : Int} (h : p - q + 0 = C) (hc : 0 ≤ C) : p - q = C ∧ q ≤ p := by omega
theorem SerJ.step (hM : 0 < M) (hs : s ≤ M) (hd : 1 ≤ d0) (h : SerJ M s t0 d0 i t p q) (h0 : t0 < p200N) :
    (i % 2 = 0 → SerJ M s t0 d0 (i + 1) (nexQ M s t (d0 + 2 * i)) (p + t) q) ∧ (i % 2 = 1 → SerJ M s t0 d0 (i + 1) (nexQ M s t (d0 + 2 * i)) p (q + t)) := by
  have hl := h.le
  have hn := altR_next (t := t) (d := d0 + 2 * i) hM hs (by omega) (Nat.lt_of_le_of_lt hl h0)
  have hh := nexQ_le (t := t) (d := d0 + 2 * i) hM hs (by omega)
  have hsm : nexQ M s t (d0 + 2 * i) * 2 ^ (i + 1) ≤ t0 := by
    have h1 := Nat.mul_le_mul_right (2 ^ i) hh
    have e : nexQ M s t (d0 + 2 * i) * 2 ^ (i + 1) = nexQ M s t (d0 + 2 * i) * 2 * 2 ^ i := by rw [Nat.pow_succ, Nat.mul_comm (2 ^ i) 2, ← Nat.mul_assoc]
    rw [e]
    exact Nat.le_trans h1 h.small
  have hi := h.inv
  rw [hn] at hi
  rw [show d0 + 2 * i + 2 = d0 + 2 * (i + 1) by omega] at hi
  constructor
  · intro c
    rw [if_pos c] at hi
    exact ⟨by rw [if_neg (by omega)]; exact ser_ar1 hi, hsm⟩
  · intro c
    rw [if_neg (by omega)] at hi
    exact ⟨by rw [if_pos (by omega)]; exact ser_ar2 hi, hsm⟩
theorem SerJ.done (hM : 0 < M) (hs : s ≤ M) (hd : 1 ≤ d0) (h : SerJ M s t0 d0 i 0 p q) : p - q = altR M s t0 d0 ∧ q ≤ p := by
  have hi := h.inv
  rw [altR_zero] at hi
  have h1 := (altR_in hM hs (t := t0) hd).1
  have e : (if i % 2 = 0 then (0 : Int) else -0) = 0 := by split <;> rfl
  rw [e] at hi
  exact ser_ar3 hi h1
end
theorem can_lenK {l : List Int} {k : Nat} (h : Can l) (hv : valD l ≤ dB ^ k) : l.length ≤ k + 1 := by
  rcases Nat.lt_or_ge (k + 1) l.length with c | c
  · have h1 := h.low (by intro e; rw [e] at c; simp at c)
    have h2 := dB_pow_le (a := k + 1) (b := l.length - 1) (by omega)
    have h3 := dB_pow_pos k
    have h4 : dB ^ (k + 1) = dB ^ k * dB := Int.pow_succ dB k
    have h5 : dB ^ k * 2 ≤ dB ^ k * dB := Int.mul_le_mul_of_nonneg_left (by decide) (Int.le_of_lt h3)
    omega
  · exact c
theorem nexQ_val {M s t d : Nat} {k : Nat} (hM : (M : Int) = dB ^ k) : (t : Int) * (s : Int) / dB ^ k / ((d : Int) * ((d : Int) + 1)) = ((nexQ M s t d : Nat) : Int) := by
  rw [← hM]
  unfold nexQ
  push_cast
  rfl
structure SerW (M s t0 d0 i t : Nat) (w : World) (v9 v10 v11 : Value) (p q : Int) (P Q T : List Int) : Prop where
  r9 : Sl w v9 P
  r10 : Sl w v10 Q
  r11 : Sl w v11 T
  c9 : Can P
  c10 : Can Q
  c11 : Can T
  e9 : valD P = p
  e10 : valD Q = q
  e11 : valD T = (t : Int)
  l9 : P.length ≤ 13 + i
  l10 : Q.length ≤ 13 + i
  i2 : i ≤ 200
  j : SerJ M s t0 d0 i t p q
theorem sl_form {w : World} {v : Value} {l : List Int} (h : Sl w v l) : ∃ a c, v = .slice a l.length c := by
  obtain ⟨a, c, h1, -⟩ := h
  exact ⟨a, c, h1⟩
set_option maxHeartbeats 8000000 in
set_option maxRecDepth 100000 in
theorem r6_series (vf vs : Value) (first sq : List Int) (d0 k M t0 s : Nat) (w : World) (hk : k ≤ 4) (hMk : (M : Int) = dB ^ k) (hM2 : M ≤ 2 ^ 112) (hf : Sl w vf first) (hs : Sl w vs sq) (cf : Can first) (cs : Can sq) (ht0 : valD first = (t0 : Int)) (hss : valD sq = (s : Int)) (h1 : t0 ≤ M) (h2 : s ≤ M) (hd1 : 1 ≤ d0) (hd2 : d0 ≤ 2) :
    Calls Tryz.prog 352 #[vf, vs, .int .i64 (d0 : Int), .int .i64 (k : Int)] w (RwD w fun l => Can l ∧ valD l = altR M s t0 d0 ∧ l.length ≤ 300) := by
  have hM0 : 0 < M := by have := dB_pow_pos k; omega
  have p200 : t0 < p200N := Nat.lt_of_le_of_lt (Nat.le_trans h1 hM2) (Nat.pow_lt_pow_right (by decide) (by decide))
  have hsl := can_lenK (k := k) cs (by rw [hss, ← hMk]; omega)
  have HSQ := Lib.hid (And.intro hs (And.intro cs (And.intro hss (And.intro hsl hk))))
  have H0 : Hid (SerW M s t0 d0 0 t0 (lay w [.inr (noExt w)]) (.slice none 0 0) (.slice none 0 0) vf 0 0 [] [] first) := Lib.hid
    ⟨Sl.nil _, Sl.nil _, hf.lay _, Can.nil, Can.nil, cf, rfl, rfl, ht0, by simp, by simp, Nat.zero_le _, SerJ.start M s t0 d0⟩
  have HSTEP := Lib.hid (fun i t p q (h : SerJ M s t0 d0 i t p q) => h.step hM0 h2 hd1 p200)
  have HDN := Lib.hid (fun i p q (h : SerJ M s t0 d0 i 0 p q) => h.done hM0 h2 hd1)
  have HLE := Lib.hid (fun i t p q (h : SerJ M s t0 d0 i t p q) => Nat.le_trans h.le h1)
  have HFEW := Lib.hid (fun i t p q (h : SerJ M s t0 d0 i t p q) (c : t ≠ 0) => h.few c p200)
  have HNX := Lib.hid (fun t d => nexQ_val (s := s) (t := t) (d := d) hMk)
  have HMK := Lib.hid hMk
  clear hs cs hss hsl cf ht0 h1 h2 hM0 p200 hM2 hMk
  refine lay_start ?_
  go_enter Tryz.func352, Tryz.ntmps352
  go_wp2_with fail
  go_loopw [2, 9, 10, 11, 12] (fun v2 v9 v10 v11 v12 wr => ∃ (i t : Nat) (p q : Int) (P Q T : List Int) (e : Ext), v12 = .int .i64 (i : Int) ∧ v2 = .int .i64 ((d0 + 2 * i : Nat) : Int) ∧ wr = lay w [.inr e] ∧ SerW M s t0 d0 i t (lay w [.inr e]) v9 v10 v11 p q P Q T) (fun _ _ _ _ v12 _ => 200 - (intOf v12).toNat)
  case atStart => exact ⟨0, t0, 0, 0, [], [], first, noExt _, rfl, rfl, (bw_noExt _).symm, H0.out⟩
  case round =>
    obtain ⟨i, t, p, q, P, Q, T, e, rfl, rfl, rfl, hW⟩ := hrel
    obtain ⟨a9, c9, rfl⟩ := sl_form hW.r9
    obtain ⟨a10, c10, rfl⟩ := sl_form hW.r10
    obtain ⟨a11, c11, rfl⟩ := sl_form hW.r11
    have HW := Lib.hid hW
    by_cases ht : t = 0
    · subst ht
      have hT : T = [] := hW.c11.zero (by rw [hW.e11]; rfl)
      subst hT
      obtain ⟨hD, hq⟩ := HDN.out i p q hW.j
      have HD := Lib.hid hD
      have HQ := Lib.hid hq
      have HL := Lib.hid (fun W (h9 : Sl W (.slice a9 P.length c9) P) (h10 : Sl W (.slice a10 Q.length c10) Q) (la : P.length ≤ 1000000) (hv : valD Q ≤ valD P) => dg_Less _ _ P Q W h9 h10 HW.out.c9 HW.out.c10 la hv)
      have hlP : P.length ≤ 1000000 := by have := hW.l9; have := hW.i2; omega
      have HLP := Lib.hid hlP
      clear hq hD hW hlP
      go_wp2_with fail
      refine (HL.out _ HW.out.r9 HW.out.r10 HLP.out (by rw [HW.out.e9, HW.out.e10]; exact HQ.out)).mono ?_
      rintro e' w' ⟨R, v, d1, ⟨rc, rv, rl⟩, rfl, rfl, hR⟩
      rw [lay_bw] at hR ⊢
      have HR := Lib.hid (And.intro hR (And.intro rc (And.intro rv rl)))
      clear hR rc rv rl
      go_wp2_with fail
      go_ret
      obtain ⟨y, hy⟩ := lay_ex w [.inr d1, .inr e]
      refine ⟨R, _, y, ⟨HR.out.2.1, by rw [HR.out.2.2.1, HW.out.e9, HW.out.e10]; exact HD.out, by have := HR.out.2.2.2; have := HW.out.l9; have := HW.out.i2; omega⟩, rfl, hy, ?_⟩
      rw [← hy]
      exact HR.out.1.le (lay_below (w := w) (A := [.inr e]) (B := [])).size
    · have htl : 0 < T.length := List.length_pos_iff.2 (by
        intro h
        have := hW.e11
        rw [h] at this
        exact ht (by have h0 : valD [] = 0 := rfl; omega))
      have hi := HFEW.out i t p q hW.j ht
      have hTl := can_lenK (k := k) hW.c11 (by rw [hW.e11, ← HMK.out]; have := HLE.out i t p q hW.j; omega)
      obtain ⟨D, hD⟩ : ∃ D, d0 + 2 * i = D := ⟨_, rfl⟩
      obtain ⟨hS0, hS1⟩ := HSTEP.out i t p q hW.j
      have HS01 := Lib.hid (And.intro hS0 hS1)
      have hnx := HNX.out t D
      rw [hD] at hS0 hS1 HS01 ⊢
      have kd1 : IntKind.i64.wrap ((D : Int) + 1) = (D : Int) + 1 := IntWalk.i64_in _ (by omega)
      have kd2 : IntKind.i64.wrap ((D : Int) + 2) = (D : Int) + 2 := IntWalk.i64_in _ (by omega)
      have ki : IntKind.i64.wrap ((i : Int) + 1) = (i : Int) + 1 := IntWalk.i64_in _ (by omega)
      obtain ⟨E, hE⟩ : ∃ E : Int, (D : Int) * ((D : Int) + 1) = E := ⟨_, rfl⟩
      have hE1 : 1 ≤ E ∧ E ≤ 268435456 := by
        have m1 := Int.mul_le_mul (show (1 : Int) ≤ (D : Int) by omega) (show (1 : Int) ≤ (D : Int) + 1 by omega) (by decide) (by omega)
        have m2 := Int.mul_le_mul (show (D : Int) ≤ 402 by omega) (show (D : Int) + 1 ≤ 403 by omega) (by omega) (by decide)
        omega
      have kE : IntKind.i64.wrap E = E := IntWalk.i64_in _ (by omega)
      rw [hE] at hnx
      have HX := Lib.hid (And.intro hnx (And.intro hTl (And.intro hi hD)))
      have HSum9 := Lib.hid (fun W (h9 : Sl W (.slice a9 P.length c9) P) (h11 : Sl W (.slice a11 T.length c11) T) => dg_Sum _ _ P T W h9 h11 HW.out.c9 HW.out.c11 (by have := HW.out.l9; omega) (by have := HX.out.2.1; have := HSQ.out.2.2.2.2; omega))
      have HSum10 := Lib.hid (fun W (h9 : Sl W (.slice a10 Q.length c10) Q) (h11 : Sl W (.slice a11 T.length c11) T) => dg_Sum _ _ Q T W h9 h11 HW.out.c10 HW.out.c11 (by have := HW.out.l10; omega) (by have := HX.out.2.1; have := HSQ.out.2.2.2.2; omega))
      have HTi := Lib.hid (fun W (h11 : Sl W (.slice a11 T.length c11) T) (hq : Sl W vs sq) => dg_Times _ _ T sq W h11 hq HW.out.c11.1 HSQ.out.2.1.1 (by have := HX.out.2.1; have := HSQ.out.2.2.2.2; omega) (by have := HSQ.out.2.2.2.1; have := HSQ.out.2.2.2.2; omega))
      have HDr := Lib.hid (fun W v l (h : Sl W v l) => r6_Drop v l k W h)
      have HPa := Lib.hid (fun W v l (h : Sl W v l) (c : Dg l) (la : l.length ≤ 100000) => r6_Part v l E W h c hE1.1 hE1.2 la)
      obtain ⟨tl, htl2⟩ : ∃ n, T.length = n := ⟨_, rfl⟩
      rw [htl2] at htl HW HSum9 HSum10 HTi hTl ⊢
      have x1 : (0 : Int) < (tl : Int) := by omega
      have x0 : (0 : Int) ≤ (i : Int) := by omega
      have HTL := Lib.hid htl2
      clear hS0 hS1 hnx hTl hE1 hW htl2
      have c := Nat.mod_two_eq_zero_or_one i
      rcases c with c | c
      · have mA : (i : Int) % 2 = 0 := by omega
        have mB : (i : Int).tmod 2 = 0 := by rw [Int.tmod_eq_emod_of_nonneg x0]; exact mA
        have HC := Lib.hid c
        clear c
        go_wp2_with fail
        refine (HSum9.out _ HW.out.r9 HW.out.r11).mono ?_
        rintro e' w' ⟨P2, v2, d1, ⟨pc, pv, pl⟩, rfl, rfl, hP⟩
        rw [lay_bw] at hP ⊢
        have HP := Lib.hid (And.intro hP.sl (And.intro pc (And.intro pv pl)))
        clear hP pc pv pl
        go_wp2_with fail
        refine (HTi.out _ (sl_on (A := [_]) HW.out.r11) (HSQ.out.1.lay _)).mono ?_
        rintro e' w' ⟨X, vx, d2, ⟨xc, xv, xl⟩, rfl, rfl, hX⟩
        rw [lay_bw] at hX ⊢
        have HXX := Lib.hid (And.intro hX.sl (And.intro xc (And.intro xv xl)))
        clear hX xc xv xl
        go_wp2_with fail
        refine (HDr.out _ _ _ HXX.out.1).mono ?_
        rintro e' w' ⟨vy, d3, rfl, rfl, hY⟩
        rw [lay_bw] at hY ⊢
        have HY := Lib.hid hY
        clear hY
        go_wp2_with fail
        refine (HPa.out _ _ _ HY.out (HXX.out.2.1.1.drop k) (by rw [List.length_drop]; have := HXX.out.2.2.2; have := HX.out.2.1; have := HTL.out; have := HSQ.out.2.2.2.1; have := HSQ.out.2.2.2.2; omega)).mono ?_
        rintro e' w' ⟨T2, v11, d4, ⟨tc, tv, tl2⟩, rfl, rfl, hT⟩
        rw [lay_bw] at hT ⊢
        have HT := Lib.hid (And.intro hT.sl (And.intro tc (show valD T2 = ((nexQ M s t D : Nat) : Int) by rw [tv, drop_val HXX.out.2.1.1, HXX.out.2.2.1, HW.out.e11, HSQ.out.2.2.1]; exact HX.out.1)))
        clear hT tc tv tl2
        go_wp2_with fail
        go_roundw
        obtain ⟨y, hy⟩ := lay_ex w [.inr d4, .inr d3, .inr d2, .inr d1, .inr e]
        case rel =>
          refine ⟨i + 1, nexQ M s t D, p + t, q, P2, Q, T2, y, by go_num, by have := HX.out.2.2.2; exact congrArg _ (by omega), hy, ?_⟩
          rw [show lay w [.inr y] = _ from hy.symm]
          exact ⟨HP.out.1.ext (lay_below (A := [.inr d4, .inr d3, .inr d2])), HW.out.r10.ext (lay_below (A := [.inr d4, .inr d3, .inr d2, .inr d1])), HT.out.1, HP.out.2.1, HW.out.c10, HT.out.2.1, by rw [HP.out.2.2.1, HW.out.e9, HW.out.e11], HW.out.e10, HT.out.2.2, by have := HP.out.2.2.2; have := HW.out.l9; have := HTL.out; have := HX.out.2.1; have := HSQ.out.2.2.2.2; omega, by have := HW.out.l10; omega, HX.out.2.2.1, HS01.out.1 HC.out⟩
        case measure => have := HX.out.2.2.1; simp [intOf]; omega
      · have mA : (i : Int) % 2 = 1 := by omega
        have mB : (i : Int).tmod 2 = 1 := by rw [Int.tmod_eq_emod_of_nonneg x0]; exact mA
        have HC := Lib.hid c
        clear c
        go_wp2_with fail
        refine (HSum10.out _ HW.out.r10 HW.out.r11).mono ?_
        rintro e' w' ⟨P2, v2, d1, ⟨pc, pv, pl⟩, rfl, rfl, hP⟩
        rw [lay_bw] at hP ⊢
        have HP := Lib.hid (And.intro hP.sl (And.intro pc (And.intro pv pl)))
        clear hP pc pv pl
        go_wp2_with fail
        refine (HTi.out _ (sl_on (A := [_]) HW.out.r11) (HSQ.out.1.lay _)).mono ?_
        rintro e' w' ⟨X, vx, d2, ⟨xc, xv, xl⟩, rfl, rfl, hX⟩
        rw [lay_bw] at hX ⊢
        have HXX := Lib.hid (And.intro hX.sl (And.intro xc (And.intro xv xl)))
        clear hX xc xv xl
        go_wp2_with fail
        refine (HDr.out _ _ _ HXX.out.1).mono ?_
        rintro e' w' ⟨vy, d3, rfl, rfl, hY⟩
        rw [lay_bw] at hY ⊢
        have HY := Lib.hid hY
        clear hY
        go_wp2_with fail
        refine (HPa.out _ _ _ HY.out (HXX.out.2.1.1.drop k) (by rw [List.length_drop]; have := HXX.out.2.2.2; have := HX.out.2.1; have := HTL.out; have := HSQ.out.2.2.2.1; have := HSQ.out.2.2.2.2; omega)).mono ?_
        rintro e' w' ⟨T2, v11, d4, ⟨tc, tv, tl2⟩, rfl, rfl, hT⟩
        rw [lay_bw] at hT ⊢
        have HT := Lib.hid (And.intro hT.sl (And.intro tc (show valD T2 = ((nexQ M s t D : Nat) : Int) by rw [tv, drop_val HXX.out.2.1.1, HXX.out.2.2.1, HW.out.e11, HSQ.out.2.2.1]; exact HX.out.1)))
        clear hT tc tv tl2
        go_wp2_with fail
        go_roundw
        obtain ⟨y, hy⟩ := lay_ex w [.inr d4, .inr d3, .inr d2, .inr d1, .inr e]
        case rel =>
          refine ⟨i + 1, nexQ M s t D, p, q + t, P, P2, T2, y, by go_num, by have := HX.out.2.2.2; exact congrArg _ (by omega), hy, ?_⟩
          rw [show lay w [.inr y] = _ from hy.symm]
          exact ⟨HW.out.r9.ext (lay_below (A := [.inr d4, .inr d3, .inr d2, .inr d1])), HP.out.1.ext (lay_below (A := [.inr d4, .inr d3, .inr d2])), HT.out.1, HW.out.c9, HP.out.2.1, HT.out.2.1, HW.out.e9, by rw [HP.out.2.2.1, HW.out.e10, HW.out.e11], HT.out.2.2, by have := HW.out.l9; omega, by have := HP.out.2.2.2; have := HW.out.l10; have := HTL.out; have := HX.out.2.1; have := HSQ.out.2.2.2.2; omega, HX.out.2.2.1, HS01.out.2 HC.out⟩
        case measure => have := HX.out.2.2.1; simp [intOf]; omega
end Go.Proofs.YtnnmfdeeicpdlaaGreat
/- The reference's digits: Over. -/
namespace Go.Proofs.YtnnmfdeeicpdlaaGreat
open Go.RowKit

theorem ow_formN {w : World} {base : Nat} {v : Value} {l : List Int} (h : Ow w base v l) : ∃ A c, v = .slice A l.length c ∧ (A = none → c = 0) := by
  rcases h.1.2 with ⟨rfl, hz⟩ | ⟨g, cap, cur, rfl, _⟩
  · exact ⟨none, 0, by rw [hz], fun _ => rfl⟩
  · exact ⟨_, cap, rfl, fun h => by cases h⟩
structure DigI (B r lo hi : Int) : Prop where
  l0 : 0 ≤ lo
  lh : lo ≤ hi
  h1 : hi < dB
  le : B * lo ≤ r
  lt : r < B * (hi + 1)
theorem DigI.start {B r : Int} (h0 : 0 ≤ r) (h : r < B * dB) : DigI B r 0 268435455 := ⟨by decide, by decide, by decide, by omega, h⟩
theorem DigI.up {B r lo hi m : Int} (h : DigI B r lo hi) (h1 : lo ≤ m) (h2 : m ≤ hi) (hle : B * m ≤ r) : DigI B r m hi := ⟨by have := h.l0; omega, h2, h.h1, hle, h.lt⟩
theorem DigI.down {B r lo hi m : Int} (h : DigI B r lo hi) (h1 : lo < m) (h2 : m ≤ hi) (hlt : r < B * m) : DigI B r lo (m - 1) := ⟨h.l0, by omega, by have := h.h1; omega, h.le, by rw [show m - 1 + 1 = m by omega]; exact hlt⟩
end Go.Proofs.YtnnmfdeeicpdlaaGreat
/- The reference's numbers of digits with a sign: sign, Minus, Plus, Mul. -/
namespace Go.Proofs.YtnnmfdeeicpdlaaGreat
set_option maxHeartbeats 2000000
set_option maxRecDepth 100000
open Go.RowKit

def NmK (w : World) (v : Value) (z : Int) (k : Nat) : Prop := ∃ a c l neg, v = .agg #[.slice a l.length c, .bool neg] ∧ Sl w (.slice a l.length c) l ∧ NumK neg l z ∧ l.length ≤ k
theorem NmK.ext {w w' : World} {v : Value} {z : Int} {k : Nat} (h : NmK w v z k) (hb : Below w.heap.size w w') : NmK w' v z k := by
  obtain ⟨a, c, l, neg, h1, h2, h3, h4⟩ := h
  exact ⟨a, c, l, neg, h1, h2.ext hb, h3, h4⟩
theorem nmK_on {w : World} {v : Value} {z : Int} {k : Nat} {A B : List (Obj ⊕ Ext)} (h : NmK (lay w B) v z k) : NmK (lay w (A ++ B)) v z k := h.ext lay_below
theorem NmK.lay {w : World} {v : Value} {z : Int} {k : Nat} (h : NmK w v z k) (L : List (Obj ⊕ Ext)) : NmK (lay w L) v z k := h.ext (lay_extends w L)
def NmP (w : World) (z : Int) (k : Nat) (e : Ending) (w' : World) : Prop := ∃ v d, e = .returned v ∧ w' = bw w d ∧ NmK (bw w d) v z k
def joinE (e d : Ext) : Ext := ⟨e.blocks ++ d.blocks, d.drawn⟩
theorem num_keep {w : World} (A : List (Obj ⊕ Ext)) {e1 d3 : Ext} {o : Obj} (o' : Obj) {T : List (Obj ⊕ Ext)} {v : Value} {l : List Int} (h : Ow (Go.Proofs.YtnnmfdeeicpdlaaGreat.lay w (.inr d3 :: .inr e1 :: .inl o :: T)) (Go.Proofs.YtnnmfdeeicpdlaaGreat.lay w (.inr e1 :: .inl o :: T)).heap.size v l) :
    Ow (Go.Proofs.YtnnmfdeeicpdlaaGreat.lay w (A ++ (.inr d3 :: .inr e1 :: .inl o' :: T))) w.heap.size v l := by
  have h1 : Go.Proofs.YtnnmfdeeicpdlaaGreat.lay w (.inr d3 :: .inr e1 :: .inl o :: T) = Go.Proofs.YtnnmfdeeicpdlaaGreat.lay w (.inr (joinE e1 d3) :: .inl o :: T) := bw_bw _ _ _
  have h2 : Go.Proofs.YtnnmfdeeicpdlaaGreat.lay w (.inr d3 :: .inr e1 :: .inl o' :: T) = Go.Proofs.YtnnmfdeeicpdlaaGreat.lay w (.inr (joinE e1 d3) :: .inl o' :: T) := bw_bw _ _ _
  rw [h1] at h
  have hb : (Go.Proofs.YtnnmfdeeicpdlaaGreat.lay w T).heap.size < (Go.Proofs.YtnnmfdeeicpdlaaGreat.lay w (.inr e1 :: .inl o :: T)).heap.size := Nat.lt_of_lt_of_le (lay_lt w o T) (lay_below (w := w) (A := [.inr e1]) (B := .inl o :: T)).size
  have h3 := ow_swap o' hb h
  rw [← h2] at h3
  exact (ow_on h3).le (lay_extends w _).size
theorem num_keep3 {w : World} (A : List (Obj ⊕ Ext)) {e1 d3 f : Ext} {o : Obj} (o' : Obj) {T : List (Obj ⊕ Ext)} {v : Value} {l : List Int} (h : Ow (Go.Proofs.YtnnmfdeeicpdlaaGreat.lay w (.inr d3 :: .inr e1 :: .inr f :: .inl o :: T)) (Go.Proofs.YtnnmfdeeicpdlaaGreat.lay w (.inr e1 :: .inr f :: .inl o :: T)).heap.size v l) :
    Ow (Go.Proofs.YtnnmfdeeicpdlaaGreat.lay w (A ++ (.inr d3 :: .inr e1 :: .inr f :: .inl o' :: T))) w.heap.size v l := by
  have h1 : ∀ X, Go.Proofs.YtnnmfdeeicpdlaaGreat.lay w (.inr d3 :: .inr e1 :: .inr f :: X) = Go.Proofs.YtnnmfdeeicpdlaaGreat.lay w (.inr d3 :: .inr (joinE f e1) :: X) := fun X => congrArg (fun W => Go.Proofs.YtnnmfdeeicpdlaaGreat.bw W d3) (bw_bw (Go.Proofs.YtnnmfdeeicpdlaaGreat.lay w X) f e1)
  have h2 : Go.Proofs.YtnnmfdeeicpdlaaGreat.lay w (.inr e1 :: .inr f :: .inl o :: T) = Go.Proofs.YtnnmfdeeicpdlaaGreat.lay w (.inr (joinE f e1) :: .inl o :: T) := bw_bw _ _ _
  rw [h1, h2] at h
  have h3 := num_keep [] o' h
  rw [List.nil_append, ← h1] at h3
  exact ow_on h3
def NmKO (w : World) (base : Nat) (v : Value) (z : Int) (k : Nat) : Prop := ∃ a c l neg, v = .agg #[.slice a l.length c, .bool neg] ∧ Ow w base (.slice a l.length c) l ∧ NumK neg l z ∧ l.length ≤ k
theorem NmKO.k {w : World} {base : Nat} {v : Value} {z : Int} {k : Nat} (h : NmKO w base v z k) : NmK w v z k := by
  obtain ⟨a, c, l, neg, h1, h2, h3, h4⟩ := h
  exact ⟨a, c, l, neg, h1, h2.sl, h3, h4⟩
def NmPO (w : World) (z : Int) (k : Nat) (e : Ending) (w' : World) : Prop := ∃ v d, e = .returned v ∧ w' = bw w d ∧ NmKO (bw w d) w.heap.size v z k
theorem NumK.neg {neg : Bool} {l : List Int} {z : Int} (h : NumK neg l z) : NumK (if l = [] then false else !neg) l (-z) := by
  have h1 := NumK.sign (neg := !neg) h.can
  rwa [show numV (!neg) l = -z by rw [h.val]; unfold numV; cases neg <;> simp] at h1
theorem dg_sign (a : Option Addr) (c : Nat) (l : List Int) (neg : Bool) (w : World) :
    Calls Tryz.prog 335 #[.agg #[.slice a l.length c, .bool neg]] w fun e w' => e = .returned (.agg #[.slice a l.length c, .bool (if l = [] then false else neg)]) ∧ ∃ d, w' = bw w d := by
  by_cases hl : l = []
  · subst hl
    rw [if_pos rfl]
    refine lay_start ?_
    go_enter Tryz.func335, Tryz.ntmps335
    go_wp2_with fail
    exact bodyPost_ret (v := .agg #[.slice a 0 c, .bool false]) (by simp [results, Tryz.results335, go_sem]) rfl ⟨rfl, lay_ex _ _⟩
  · rw [if_neg hl]
    obtain ⟨n, hn⟩ : ∃ n, l.length = n := ⟨_, rfl⟩
    have hn0 : n ≠ 0 := by rw [← hn]; exact fun h => hl (List.length_eq_zero_iff.1 h)
    rw [hn]
    have t1 : ((n : Int) == 0) = false := beq_eq_false_iff_ne.2 (by omega)
    clear hn hl
    refine lay_start ?_
    go_enter Tryz.func335, Tryz.ntmps335
    go_wp2_with fail
    exact bodyPost_ret (v := .agg #[.slice a n c, .bool neg]) (by simp [results, Tryz.results335, go_sem]) rfl ⟨rfl, lay_ex _ _⟩
theorem dg_Minus (v : Value) (z : Int) (k : Nat) (w : World) (h : NmK w v z k) :
    Calls Tryz.prog 300 #[v] w (NmP w (-z) k) := by
  obtain ⟨a, c, l, neg, rfl, hs, hk, hl⟩ := h
  have HS := Lib.hid hs
  have HK := Lib.hid (And.intro hk.neg hl)
  have HG := Lib.hid (fun W => dg_sign a c l (!neg) W)
  clear hs hk hl
  generalize (if l = [] then false else !neg) = g at *
  obtain ⟨n, hn⟩ : ∃ n, l.length = n := ⟨_, rfl⟩
  have HN := Lib.hid hn
  rw [hn] at HG HS ⊢
  clear hn
  refine lay_start ?_
  go_enter Tryz.func300, Tryz.ntmps300
  go_wp2_with (go_at_call 335; refine (HG.out _).mono ?_; rintro e w' ⟨rfl, d1, rfl⟩)
  refine bodyPost_ret (v := .agg #[.slice a n c, .bool g]) (by simp [results, Tryz.results300, go_sem]) rfl ?_
  obtain ⟨y, hy⟩ := lay_ex w [.inr d1, .inl (.cells #[.slice a n c, .bool g] 276 (0, 0)), .inl (.cells #[.slice a n c, .bool neg] 276 (0, 0))]
  refine ⟨_, y, rfl, hy, a, c, l, g, by rw [HN.out], ?_, HK.out.1, HK.out.2⟩
  rw [HN.out]
  exact HS.out.bw y
theorem dg_Mul (v1 v2 : Value) (x y : Int) (k1 k2 : Nat) (w : World) (h1 : NmK w v1 x k1) (h2 : NmK w v2 y k2) (b1 : k1 ≤ 1000) (b2 : k2 ≤ 1000) :
    Calls Tryz.prog 294 #[v1, v2] w (NmPO w (x * y) (k1 + k2)) := by
  obtain ⟨p1, c1, l1, n1, rfl, hs1, hk1, hl1⟩ := h1
  obtain ⟨p2, c2, l2, n2, rfl, hs2, hk2, hl2⟩ := h2
  have HT := Lib.hid (fun L => dg_Times _ _ l1 l2 _ (hs1.lay L) (hs2.lay L) hk1.can.1 hk2.can.1 (by omega) (by omega))
  have HK := Lib.hid (And.intro hk1 (And.intro hk2 (And.intro hl1 hl2)))
  obtain ⟨m1, hm1⟩ : ∃ m, l1.length = m := ⟨_, rfl⟩
  obtain ⟨m2, hm2⟩ : ∃ m, l2.length = m := ⟨_, rfl⟩
  rw [hm1, hm2] at HT
  rw [hm1, hm2] at HK
  rw [hm1, hm2]
  clear hs1 hs2 hk1 hk2 hl1 hl2 hm1 hm2
  refine lay_start ?_
  go_enter Tryz.func294, Tryz.ntmps294
  go_wp2_with fail
  refine region_mixS 12 [(0, 0), (1, 0), (2, 0), (3, 0), (5, 0), (6, 0), (7, 0), (8, 0), (9, 0), (4, 1), (10, 0), (11, 0), (12, 3)] (by kernel_rfl) (by kernel_rfl) (by kernel_rfl) rfl ?_
  repeat (first | (refine wpMS_pure rfl (fun K hK => ?_); go_simp; refine hK _ ?_; clear hK K) | (refine wpMS_quiet rfl (fun K hK => ?_); go_simp; first | (refine hK _ ?_; clear hK K) | (apply Exists.intro; refine ⟨fun _ => ?_, hK _ ?_⟩; (first | fail); clear hK K)))
  refine wpMS_special rfl (fun K hK e1 => ?_)
  rw [lay_bw]
  go_simp
  refine (HT.out _).mono ?_
  rintro e w' ⟨l, v3, d3, ⟨g1, g2, g3⟩, rfl, rfl, hv3⟩
  obtain ⟨A, C, hv, -⟩ := ow_formN hv3
  subst hv
  have HV := Lib.hid hv3
  have HG := Lib.hid (fun W => dg_sign A C l (n1 != n2) W)
  have HF := Lib.hid (NumK.sign (neg := n1 != n2) g1)
  rw [numV_mul HK.out.1 HK.out.2.1 g2] at HF
  have HL : Hid (l.length ≤ k1 + k2) := Lib.hid (by have := HK.out.2.2; omega)
  rw [lay_bw] at HV ⊢
  clear hv3 g1 g2 g3
  generalize (if l = [] then false else n1 != n2) = g at *
  obtain ⟨m, hm⟩ : ∃ m, l.length = m := ⟨_, rfl⟩
  have HM := Lib.hid hm
  rw [hm] at HV HG ⊢
  clear hm
  refine ⟨_, rfl, hK _ _ (lay_in w [.inr d3, .inr e1] _) ?_⟩
  clear hK K
  repeat (first | (refine wpMS_pure rfl (fun K hK => ?_); go_simp; refine hK _ ?_; clear hK K) | (refine wpMS_quiet rfl (fun K hK => ?_); go_simp; first | (refine hK _ ?_; clear hK K) | (apply Exists.intro; refine ⟨fun _ => ?_, hK _ ?_⟩; (first | (go_at_call 335; exact bq (HG.out _) (fun d => ⟨d, rfl⟩))); clear hK K)))
  refine wpMS_store rfl (fun K hK e4 => ?_)
  rw [lay_bw]
  go_simp
  refine hK _ _ ?_
  clear hK K
  refine wpMS_nil (fun e5 => ?_)
  rw [lay_bw]
  go_wp2_with fail
  refine bodyPost_ret (v := .agg #[.slice A m C, .bool g]) (by simp [results, Tryz.results294, go_sem]) rfl ?_
  obtain ⟨y, hy⟩ := lay_ex w [.inr e5, .inr e4, .inr d3, .inr e1, .inl (.cells #[.slice A m C, .bool g] 276 (0, 0)), .inl (.cells #[.slice p2 m2 c2, .bool n2] 276 (0, 0)), .inl (.cells #[.slice p1 m1 c1, .bool n1] 276 (0, 0))]
  refine ⟨_, y, rfl, hy, A, C, l, g, by rw [HM.out], ?_, HF.out, HL.out⟩
  rw [HM.out, ← hy]
  exact num_keep [.inr e5, .inr e4] _ HV.out
theorem dg_Plus (v1 v2 : Value) (x y : Int) (k1 k2 : Nat) (w : World) (h1 : NmK w v1 x k1) (h2 : NmK w v2 y k2) (b1 : k1 ≤ 1000) (b2 : k2 ≤ 1000) :
    Calls Tryz.prog 299 #[v1, v2] w (NmPO w (x + y) (max k1 k2 + 1)) := by
  obtain ⟨p1, c1, l1, n1, rfl, hs1, hk1, hl1⟩ := h1
  obtain ⟨p2, c2, l2, n2, rfl, hs2, hk2, hl2⟩ := h2
  have HK := Lib.hid (And.intro hk1 (And.intro hk2 (And.intro hl1 hl2)))
  by_cases hn : n1 = n2
  · subst hn
    have HT := Lib.hid (fun L => dg_Sum _ _ l1 l2 _ (hs1.lay L) (hs2.lay L) hk1.can hk2.can (by omega) (by omega))
    obtain ⟨m1, hm1⟩ : ∃ m, l1.length = m := ⟨_, rfl⟩
    obtain ⟨m2, hm2⟩ : ∃ m, l2.length = m := ⟨_, rfl⟩
    rw [hm1, hm2] at HT
    rw [hm1, hm2] at HK
    rw [hm1, hm2]
    have t1 : (n1 == n1) = true := beq_self_eq_true n1
    clear hs1 hs2 hk1 hk2 hl1 hl2 hm1 hm2
    refine lay_start ?_
    go_enter Tryz.func299, Tryz.ntmps299
    go_wp2_with fail
    refine region_mixS 8 [(0, 0), (1, 0), (2, 0), (3, 0), (5, 0), (6, 0), (4, 1), (7, 0), (8, 3)] (by kernel_rfl) (by kernel_rfl) (by kernel_rfl) rfl ?_
    repeat (first | (refine wpMS_pure rfl (fun K hK => ?_); go_simp; refine hK _ ?_; clear hK K) | (refine wpMS_quiet rfl (fun K hK => ?_); go_simp; first | (refine hK _ ?_; clear hK K) | (apply Exists.intro; refine ⟨fun _ => ?_, hK _ ?_⟩; (first | fail); clear hK K)))
    refine wpMS_special rfl (fun K hK e1 => ?_)
    rw [lay_bw]
    go_simp
    refine (HT.out _).mono ?_
    rintro e w' ⟨l, v3, d3, ⟨g1, g2, g3⟩, rfl, rfl, hv3⟩
    obtain ⟨A, C, hv, -⟩ := ow_formN hv3
    subst hv
    have HV := Lib.hid hv3
    have HF := Lib.hid (HK.out.1.plus_same HK.out.2.1 g1 g2)
    have HL : Hid (l.length ≤ max k1 k2 + 1) := Lib.hid (by have := HK.out.2.2; omega)
    rw [lay_bw] at HV ⊢
    clear hv3 g1 g2 g3
    obtain ⟨m, hm⟩ : ∃ m, l.length = m := ⟨_, rfl⟩
    have HM := Lib.hid hm
    rw [hm] at HV ⊢
    clear hm
    refine ⟨_, rfl, hK _ _ (lay_in w [.inr d3, .inr e1] _) ?_⟩
    clear hK K
    repeat (first | (refine wpMS_pure rfl (fun K hK => ?_); go_simp; refine hK _ ?_; clear hK K) | (refine wpMS_quiet rfl (fun K hK => ?_); go_simp; first | (refine hK _ ?_; clear hK K) | (apply Exists.intro; refine ⟨fun _ => ?_, hK _ ?_⟩; (first | fail); clear hK K)))
    refine wpMS_store rfl (fun K hK e4 => ?_)
    rw [lay_bw]
    go_simp
    refine hK _ _ ?_
    clear hK K
    refine wpMS_nil (fun e5 => ?_)
    rw [lay_bw]
    go_wp2_with fail
    refine bodyPost_ret (v := .agg #[.slice A m C, .bool n1]) (by simp [results, Tryz.results299, go_sem]) rfl ?_
    obtain ⟨y, hy⟩ := lay_ex w [.inr e5, .inr e4, .inr d3, .inr e1, .inl (.cells #[.slice A m C, .bool n1] 276 (0, 0)), .inl (.cells #[.slice p2 m2 c2, .bool n1] 276 (0, 0)), .inl (.cells #[.slice p1 m1 c1, .bool n1] 276 (0, 0))]
    refine ⟨_, y, rfl, hy, A, C, l, n1, by rw [HM.out], ?_, HF.out, HL.out⟩
    rw [HM.out, ← hy]
    exact num_keep [.inr e5, .inr e4] _ HV.out
  · have t1 : (n1 == n2) = false := beq_eq_false_iff_ne.2 hn
    have HO := Lib.hid (fun L => dg_Order _ _ l1 l2 _ (hs1.lay L) (hs2.lay L) hk1.can hk2.can)
    have HN := Lib.hid hn
    by_cases hv : valD l2 ≤ valD l1
    · have HT := Lib.hid (fun L => dg_Less _ _ l1 l2 _ (hs1.lay L) (hs2.lay L) hk1.can hk2.can (by omega) hv)
      obtain ⟨O, hO⟩ : ∃ O, ordI (valD l1) (valD l2) = O := ⟨_, rfl⟩
      have hO1 : O ≥ 0 := by
        rw [← hO]
        unfold ordI
        rw [if_neg (by omega)]
        split <;> decide
      rw [hO] at HO
      clear hO
      obtain ⟨m1, hm1⟩ : ∃ m, l1.length = m := ⟨_, rfl⟩
      obtain ⟨m2, hm2⟩ : ∃ m, l2.length = m := ⟨_, rfl⟩
      rw [hm1, hm2] at HO
      rw [hm1, hm2] at HT
      rw [hm1, hm2] at HK
      rw [hm1, hm2]
      clear hs1 hs2 hk1 hk2 hl1 hl2 hm1 hm2 hv hn
      refine lay_start ?_
      go_enter Tryz.func299, Tryz.ntmps299
      go_wp2_with (go_at_call 305; refine (HO.out _).mono ?_; rintro e w' ⟨rfl, dO, rfl⟩)
      refine region_mixS 9 [(0, 0), (1, 0), (2, 0), (3, 0), (5, 0), (6, 0), (4, 1), (7, 0), (8, 0), (9, 3)] (by kernel_rfl) (by kernel_rfl) (by kernel_rfl) rfl ?_
      repeat (first | (refine wpMS_pure rfl (fun K hK => ?_); go_simp; refine hK _ ?_; clear hK K) | (refine wpMS_quiet rfl (fun K hK => ?_); go_simp; first | (refine hK _ ?_; clear hK K) | (apply Exists.intro; refine ⟨fun _ => ?_, hK _ ?_⟩; (first | fail); clear hK K)))
      refine wpMS_special rfl (fun K hK e1 => ?_)
      rw [lay_bw]
      go_simp
      refine (HT.out _).mono ?_
      rintro e w' ⟨l, v3, d3, ⟨g1, g2, g3⟩, rfl, rfl, hv3⟩
      obtain ⟨A, C, hv, -⟩ := ow_formN hv3
      subst hv
      have HV := Lib.hid hv3
      have HG := Lib.hid (fun W => dg_sign A C l n1 W)
      have HF := Lib.hid (NumK.sign (neg := n1) g1)
      rw [(numV_less HN.out HK.out.1 HK.out.2.1 g2)] at HF
      have HL : Hid (l.length ≤ max k1 k2 + 1) := Lib.hid (by have := HK.out.2.2; omega)
      rw [lay_bw] at HV ⊢
      clear hv3 g1 g2 g3
      generalize (if l = [] then false else n1) = g at *
      obtain ⟨m, hm⟩ : ∃ m, l.length = m := ⟨_, rfl⟩
      have HM := Lib.hid hm
      rw [hm] at HV HG ⊢
      clear hm
      refine ⟨_, rfl, hK _ _ (lay_in w [.inr d3, .inr e1] _) ?_⟩
      clear hK K
      repeat (first | (refine wpMS_pure rfl (fun K hK => ?_); go_simp; refine hK _ ?_; clear hK K) | (refine wpMS_quiet rfl (fun K hK => ?_); go_simp; first | (refine hK _ ?_; clear hK K) | (apply Exists.intro; refine ⟨fun _ => ?_, hK _ ?_⟩; (first | (go_at_call 335; exact bq (HG.out _) (fun d => ⟨d, rfl⟩))); clear hK K)))
      refine wpMS_store rfl (fun K hK e4 => ?_)
      rw [lay_bw]
      go_simp
      refine hK _ _ ?_
      clear hK K
      refine wpMS_nil (fun e5 => ?_)
      rw [lay_bw]
      go_wp2_with fail
      refine bodyPost_ret (v := .agg #[.slice A m C, .bool g]) (by simp [results, Tryz.results299, go_sem]) rfl ?_
      obtain ⟨y, hy⟩ := lay_ex w [.inr e5, .inr e4, .inr d3, .inr e1, .inr dO, .inl (.cells #[.slice A m C, .bool g] 276 (0, 0)), .inl (.cells #[.slice p2 m2 c2, .bool n2] 276 (0, 0)), .inl (.cells #[.slice p1 m1 c1, .bool n1] 276 (0, 0))]
      refine ⟨_, y, rfl, hy, A, C, l, g, by rw [HM.out], ?_, HF.out, HL.out⟩
      rw [HM.out, ← hy]
      exact num_keep3 [.inr e5, .inr e4] _ HV.out
    · have HT := Lib.hid (fun L => dg_Less _ _ l2 l1 _ (hs2.lay L) (hs1.lay L) hk2.can hk1.can (by omega) (by omega))
      rw [ord_lt (show valD l1 < valD l2 by omega)] at HO
      obtain ⟨m1, hm1⟩ : ∃ m, l1.length = m := ⟨_, rfl⟩
      obtain ⟨m2, hm2⟩ : ∃ m, l2.length = m := ⟨_, rfl⟩
      rw [hm1, hm2] at HO
      rw [hm1, hm2] at HT
      rw [hm1, hm2] at HK
      rw [hm1, hm2]
      clear hs1 hs2 hk1 hk2 hl1 hl2 hm1 hm2 hv hn
      refine lay_start ?_
      go_enter Tryz.func299, Tryz.ntmps299
      go_wp2_with (go_at_call 305; refine (HO.out _).mono ?_; rintro e w' ⟨rfl, dO, rfl⟩)
      refine region_mixS 9 [(0, 0), (1, 0), (2, 0), (3, 0), (5, 0), (6, 0), (4, 1), (7, 0), (8, 0), (9, 3)] (by kernel_rfl) (by kernel_rfl) (by kernel_rfl) rfl ?_
      repeat (first | (refine wpMS_pure rfl (fun K hK => ?_); go_simp; refine hK _ ?_; clear hK K) | (refine wpMS_quiet rfl (fun K hK => ?_); go_simp; first | (refine hK _ ?_; clear hK K) | (apply Exists.intro; refine ⟨fun _ => ?_, hK _ ?_⟩; (first | fail); clear hK K)))
      refine wpMS_special rfl (fun K hK e1 => ?_)
      rw [lay_bw]
      go_simp
      refine (HT.out _).mono ?_
      rintro e w' ⟨l, v3, d3, ⟨g1, g2, g3⟩, rfl, rfl, hv3⟩
      obtain ⟨A, C, hv, -⟩ := ow_formN hv3
      subst hv
      have HV := Lib.hid hv3
      have HG := Lib.hid (fun W => dg_sign A C l n2 W)
      have HF := Lib.hid (NumK.sign (neg := n2) g1)
      rw [((numV_less (Ne.symm HN.out) HK.out.2.1 HK.out.1 g2).trans (Int.add_comm _ _))] at HF
      have HL : Hid (l.length ≤ max k1 k2 + 1) := Lib.hid (by have := HK.out.2.2; omega)
      rw [lay_bw] at HV ⊢
      clear hv3 g1 g2 g3
      generalize (if l = [] then false else n2) = g at *
      obtain ⟨m, hm⟩ : ∃ m, l.length = m := ⟨_, rfl⟩
      have HM := Lib.hid hm
      rw [hm] at HV HG ⊢
      clear hm
      refine ⟨_, rfl, hK _ _ (lay_in w [.inr d3, .inr e1] _) ?_⟩
      clear hK K
      repeat (first | (refine wpMS_pure rfl (fun K hK => ?_); go_simp; refine hK _ ?_; clear hK K) | (refine wpMS_quiet rfl (fun K hK => ?_); go_simp; first | (refine hK _ ?_; clear hK K) | (apply Exists.intro; refine ⟨fun _ => ?_, hK _ ?_⟩; (first | (go_at_call 335; exact bq (HG.out _) (fun d => ⟨d, rfl⟩))); clear hK K)))
      refine wpMS_store rfl (fun K hK e4 => ?_)
      rw [lay_bw]
      go_simp
      refine hK _ _ ?_
      clear hK K
      refine wpMS_nil (fun e5 => ?_)
      rw [lay_bw]
      go_wp2_with fail
      refine bodyPost_ret (v := .agg #[.slice A m C, .bool g]) (by simp [results, Tryz.results299, go_sem]) rfl ?_
      obtain ⟨y, hy⟩ := lay_ex w [.inr e5, .inr e4, .inr d3, .inr e1, .inr dO, .inl (.cells #[.slice A m C, .bool g] 276 (0, 0)), .inl (.cells #[.slice p2 m2 c2, .bool n2] 276 (0, 0)), .inl (.cells #[.slice p1 m1 c1, .bool n1] 276 (0, 0))]
      refine ⟨_, y, rfl, hy, A, C, l, g, by rw [HM.out], ?_, HF.out, HL.out⟩
      rw [HM.out, ← hy]
      exact num_keep3 [.inr e5, .inr e4] _ HV.out
end Go.Proofs.YtnnmfdeeicpdlaaGreat
/- The reference's numbers of digits: OfInt, Down. -/
namespace Go.Proofs.YtnnmfdeeicpdlaaGreat
open Go.RowKit

theorem can_pow {l : List Int} {k : Nat} (h : Can l) (hv : valD l < dB ^ k) : l.length ≤ k := by
  rcases Nat.lt_or_ge k l.length with h1 | h1
  · have h2 := h.low (by rintro rfl; simp at h1)
    have h3 := dB_pow_le (a := k) (b := l.length - 1) (by omega)
    omega
  · exact h1
theorem size_swap {w : World} {T : List (Obj ⊕ Ext)} (o o' : Obj) : (lay w (.inl o :: T)).heap.size = (lay w (.inl o' :: T)).heap.size := by
  show (World.alloc _ o).heap.size = (World.alloc _ o').heap.size
  rw [World.size_alloc, World.size_alloc]
theorem ow_swap2 {w : World} {T : List (Obj ⊕ Ext)} {o1 o2 : Obj} (o1' o2' : Obj) {e : Ext} {base : Nat} {v : Value} {l : List Int} (hb : (Go.Proofs.YtnnmfdeeicpdlaaGreat.lay w (.inl o2 :: T)).heap.size < base)
    (h : Ow (Go.Proofs.YtnnmfdeeicpdlaaGreat.lay w (.inr e :: .inl o1 :: .inl o2 :: T)) base v l) : Ow (Go.Proofs.YtnnmfdeeicpdlaaGreat.lay w (.inr e :: .inl o1' :: .inl o2' :: T)) base v l := by
  have hb2 : (Go.Proofs.YtnnmfdeeicpdlaaGreat.lay w T).heap.size + 1 < base := by
    have : (Go.Proofs.YtnnmfdeeicpdlaaGreat.lay w (.inl o2 :: T)).heap.size = (Go.Proofs.YtnnmfdeeicpdlaaGreat.lay w T).heap.size + 1 := World.size_alloc _ _
    omega
  refine ⟨⟨h.1.1, h.1.2.imp id fun ⟨g, cap, cur, h1, h2, h3, h4⟩ => ⟨g, cap, cur, h1, h2, ?_, h4⟩⟩, h.2⟩
  rw [← h3]
  show (((Go.Proofs.YtnnmfdeeicpdlaaGreat.lay w T).heap.push o2').push o1' ++ e.blocks)[g]? = (((Go.Proofs.YtnnmfdeeicpdlaaGreat.lay w T).heap.push o2).push o1 ++ e.blocks)[g]?
  rw [Array.getElem?_append, Array.getElem?_append, Array.size_push, Array.size_push, Array.size_push, Array.size_push]
  rw [if_neg (by omega), if_neg (by omega)]
theorem dB3 : dB ^ 3 = 19342813113834066795298816 := by decide
theorem OfI.room {z m : Int} {i : Nat} {out : List Int} (h : OfI z i out m) (hz : -9223372036854775808 ≤ z ∧ z ≤ 9223372036854775807) : m.natAbs ≤ z.natAbs ∧ (m ≠ 0 → i ≤ 2) := by
  have h1 := (valD_bd h.dg).1
  have h2 := h.val
  have h3 := dB_pow_pos i
  have h4 : 1 * (m.natAbs : Int) ≤ dB ^ i * (m.natAbs : Int) := Int.mul_le_mul_of_nonneg_right h3 (by omega)
  refine ⟨by omega, fun hm => ?_⟩
  have h5 : dB ^ i * 1 ≤ dB ^ i * (m.natAbs : Int) := Int.mul_le_mul_of_nonneg_left (by omega) (Int.le_of_lt h3)
  rcases Nat.lt_or_ge 2 i with h6 | h6
  · have h7 := dB_pow_le (a := 3) (b := i) h6
    rw [dB3] at h7
    omega
  · exact h6
theorem OfI.len3 {z : Int} {i : Nat} {out : List Int} (h : OfI z i out 0) (hz : -9223372036854775808 ≤ z ∧ z ≤ 9223372036854775807) : out.length ≤ 3 := by
  refine can_pow (h.can rfl) ?_
  have h2 := h.val
  rw [dB3]
  simp at h2
  omega
theorem Ow.form0 {w : World} {base : Nat} {v : Value} {l : List Int} (h : Ow w base v l) : ∃ a n cap, v = .slice a n cap := by obtain ⟨a, c, e⟩ := h.form; exact ⟨a, _, c, e⟩
theorem Ow.base {w : World} {b b' : Nat} {v : Value} {l : List Int} (h : Ow w b v l) (e : b = b') : Ow w b' v l := e ▸ h
set_option maxHeartbeats 2000000 in
set_option maxRecDepth 100000 in
theorem dg_OfInt (z : Int) (w : World) (hz : -9223372036854775808 ≤ z ∧ z ≤ 9223372036854775807) :
    Calls Tryz.prog 296 #[.int .i64 z] w (NmPO w z 3) := by
  obtain ⟨g, hg⟩ : ∃ g, decide (z < 0) = g := ⟨_, rfl⟩
  have HST := Lib.hid (OfI.start z)
  have HDN := Lib.hid (fun i out (h : OfI z i out 0) => h.done)
  rw [hg] at HDN
  have HZ := Lib.hid hz
  clear hz
  refine lay_start ?_
  go_enter Tryz.func296, Tryz.ntmps296
  go_wp2_with fail
  go_loopw [0] (fun v0 wr => ∃ (i : Nat) (m : Int) (A : Option Addr) (n c : Nat) (out : List Int) (dd : Ext), v0 = .int .i64 m ∧ wr = lay w [.inr dd, .inl (.cells #[.slice A n c, .bool g] 276 (0, 0)), .inl (.cells #[.slice none 0 0, .bool false] 276 (0, 0))] ∧ Ow (lay w [.inr dd, .inl (.cells #[.slice A n c, .bool g] 276 (0, 0)), .inl (.cells #[.slice none 0 0, .bool false] 276 (0, 0))]) (lay w [.inl (.cells #[.slice A n c, .bool g] 276 (0, 0)), .inl (.cells #[.slice none 0 0, .bool false] 276 (0, 0))]).heap.size (.slice A n c) out ∧ OfI z i out m) (fun v0 _ => (intOf v0).natAbs)
  case atStart => exact ⟨0, z, none, 0, 0, [], noExt _, rfl, (bw_noExt _).symm, Ow.nil _ _, HST.out⟩
  case round =>
    obtain ⟨i, m, A, n, c, out, dd, rfl, rfl, hO, hI⟩ := hrel
    have HO := Lib.hid (And.intro hO hI)
    have hrm := hI.room HZ.out
    have hzz := HZ.out
    clear hO hI
    by_cases hm0 : m = 0
    · subst hm0
      have HD := Lib.hid (HDN.out i out HO.out.2)
      have HL := Lib.hid (HO.out.2.len3 HZ.out)
      obtain ⟨n', c', he⟩ := HO.out.1.form
      have hn : n = out.length := by cases he; rfl
      have HN := Lib.hid hn
      clear hrm hzz he hn
      go_wp2_with fail
      refine bodyPost_ret (v := .agg #[.slice A n c, .bool g]) (by simp [results, Tryz.results296, go_sem]) rfl ?_
      obtain ⟨y, hy⟩ := lay_ex w [.inr dd, .inl (.cells #[.slice A n c, .bool g] 276 (0, 0)), .inl (.cells #[.slice A n c, .bool g] 276 (0, 0))]
      refine ⟨_, y, rfl, hy, A, c, out, g, by rw [HN.out], ?_, HD.out, HL.out⟩
      rw [← hy, ← HN.out]
      exact (ow_swap2 (.cells #[.slice A n c, .bool g] 276 (0, 0)) (.cells #[.slice A n c, .bool g] 276 (0, 0)) (lay_lt w _ _) HO.out.1).le (lay_extends w _).size
    · have hi2 := hrm.2 hm0
      have hmz := hrm.1
      have t1 : (m == 0) = false := beq_eq_false_iff_ne.2 hm0
      have t2 : (m != 0) = true := bne_iff_ne.2 hm0
      have ha := tmod_abs m
      have hb := tdiv_abs m
      rw [dB_eq] at ha hb
      obtain ⟨D, hD⟩ : ∃ D, m.tmod 268435456 = D := ⟨_, rfl⟩
      obtain ⟨E, hE⟩ : ∃ E, m.tdiv 268435456 = E := ⟨_, rfl⟩
      rw [hD] at ha
      rw [hE] at hb
      have kD : IntKind.i64.wrap D = D := IntWalk.i64_in _ (by omega)
      have kE : IntKind.i64.wrap E = E := IntWalk.i64_in _ (by omega)
      have hlen : out.length ≤ 1000000000 := by rw [HO.out.2.len]; omega
      have HEM : Hid (E.natAbs < m.natAbs) := Lib.hid (by omega)
      by_cases hlt : D < 0
      · obtain ⟨M, hM⟩ : ∃ M, -D = M := ⟨_, rfl⟩
        have kM : IntKind.i64.wrap M = M := IntWalk.i64_in _ (by omega)
        have lw : (Lit.int .i64 M).wf = true := lit_b (by omega)
        have HS := Lib.hid (HO.out.2.step hm0 (d := M) (m := E) (by rw [dB_eq]; omega) (by rw [dB_eq]; exact hb))
        clear ha hb hrm hzz hi2 hmz
        go_wp2_with (first | (at_builtin; refine push_int rfl _ _ rfl (lay w [.inl (.cells #[.slice A n c, .bool g] 276 (0, 0)), .inl (.cells #[.slice none 0 0, .bool false] 276 (0, 0))]) _ (M) 3 _ _ _ ?_ (ow_on (A := [_]) HO.out.1) ?_ rfl rfl hlen lw ?_; exact lay_below (A := [_, _]); exact lay_get w _ 0 _ rfl; intro v' d' hv'; obtain ⟨va, vn, vc, hve⟩ := hv'.form0; subst hve))
        rw [lay_bw] at hv'
        have hsw := (ow_swap (.cells #[.slice va vn vc, .bool g] 276 (0, 0)) (lay_lt w _ _) hv').base (size_swap _ (.cells #[.slice va vn vc, .bool g] 276 (0, 0)))
        have HSW := Lib.hid hsw
        clear hsw hv'
        go_roundw
        case rel => exact ⟨i + 1, E, va, vn, vc, out ++ [M], d', rfl, rfl, HSW.out, HS.out⟩
        case measure => have := HEM.out; simp [intOf]; omega
      · have lw : (Lit.int .i64 D).wf = true := lit_b (by omega)
        have HS := Lib.hid (HO.out.2.step hm0 (d := D) (m := E) (by rw [dB_eq]; omega) (by rw [dB_eq]; exact hb))
        clear ha hb hrm hzz hi2 hmz
        go_wp2_with (first | (at_builtin; refine push_int rfl _ _ rfl (lay w [.inl (.cells #[.slice A n c, .bool g] 276 (0, 0)), .inl (.cells #[.slice none 0 0, .bool false] 276 (0, 0))]) _ (D) 3 _ _ _ ?_ (ow_on (A := [_]) HO.out.1) ?_ rfl rfl hlen lw ?_; exact lay_below (A := [_, _]); exact lay_get w _ 0 _ rfl; intro v' d' hv'; obtain ⟨va, vn, vc, hve⟩ := hv'.form0; subst hve))
        rw [lay_bw] at hv'
        have hsw := (ow_swap (.cells #[.slice va vn vc, .bool g] 276 (0, 0)) (lay_lt w _ _) hv').base (size_swap _ (.cells #[.slice va vn vc, .bool g] 276 (0, 0)))
        have HSW := Lib.hid hsw
        clear hsw hv'
        go_roundw
        case rel => exact ⟨i + 1, E, va, vn, vc, out ++ [D], d', rfl, rfl, HSW.out, HS.out⟩
        case measure => have := HEM.out; simp [intOf]; omega
end Go.Proofs.YtnnmfdeeicpdlaaGreat
/- The reference's limbs: small, Near. -/
namespace Go.Proofs.YtnnmfdeeicpdlaaGreat
set_option maxHeartbeats 4000000
set_option maxRecDepth 100000
open Go.RowKit

def mK (k : Nat) : Nat := if k = 3 then m84 else m112
def qK (k : Nat) : Nat := if k = 3 then q84 else q112
theorem mokK {k : Nat} (hk : k = 3 ∨ k = 4) : MOk (mK k) (piK k) (qK k) := by
  rcases hk with rfl | rfl
  · exact mok84
  · exact mok112
theorem mK_val {k : Nat} (hk : k = 3 ∨ k = 4) : ((mK k : Nat) : Int) = dB ^ k ∧ mK k ≤ 2 ^ 112 := by
  rcases hk with rfl | rfl
  · decide +kernel
  · decide +kernel
theorem num_f0 (a : Option Addr) (n c : Nat) (g : Bool) (W : World) : (Instr.field 276 (.agg #[.slice a n c, .bool g]) 0).run Tryz.prog W = .ok (.slice a n c) W := by kernel_rfl
def smM (k r : Nat) (b : Bool) : Int := if b = true then cosM (mK k) (piK k) r else sinM (mK k) (piK k) r
theorem r6_small (r k : Nat) (b : Bool) (w : World) (hr : r ≤ 2700000) (hk : k = 3 ∨ k = 4) :
    Calls Tryz.prog 337 #[.int .i64 (r : Int), .bool b, .int .i64 (k : Int)] w (RwD w fun l => Can l ∧ valD l = smM k r b ∧ l.length ≤ 300) := by
  obtain ⟨hM1, hM2⟩ := mK_val hk
  obtain ⟨q1, q2, -, -⟩ := sqM_near (mokK hk) (r := r) hr
  have hQ := Lib.hid (And.intro hM1 (And.intro hM2 (And.intro q1 q2)))
  have HPi := Lib.hid (fun W => r6_Pi k hk W)
  have HOf := Lib.hid (fun W => dg_OfInt (r : Int) W (by omega))
  have HTi := Lib.hid (fun W va vb a b (ha : Sl W va a) (hb : Sl W vb b) (ca : Dg a) (cb : Dg b) (la : a.length ≤ 400000) (lb : b.length ≤ 400000) => dg_Times va vb a b W ha hb ca cb la lb)
  have HPa := Lib.hid (fun W v l (h : Sl W v l) (c : Dg l) (la : l.length ≤ 100000) => r6_Part v l 10800000 W h c (by decide) (by decide) la)
  have HDr := Lib.hid (fun W v l (h : Sl W v l) => r6_Drop v l k W h)
  have HUn := Lib.hid (fun W => r6_Unit k (by omega) W)
  have HSe := Lib.hid (fun W vf vs fl sl (d0 t0 s : Nat) (hf : Sl W vf fl) (hs : Sl W vs sl) (cf : Can fl) (cs : Can sl) (ht0 : valD fl = (t0 : Int)) (hss : valD sl = (s : Int)) (h1 : t0 ≤ mK k) (h2 : s ≤ mK k) (hd1 : 1 ≤ d0) (hd2 : d0 ≤ 2) => r6_series vf vs fl sl d0 k (mK k) t0 s W (by omega) hM1 hM2 hf hs cf cs ht0 hss h1 h2 hd1 hd2)
  have HK := Lib.hid hk
  have HR := Lib.hid hr
  clear hM1 hM2 q1 q2 hk hr
  refine lay_start ?_
  go_enter Tryz.func337, Tryz.ntmps337
  go_wp2_with fail
  refine (HPi.out _).mono ?_
  rintro e w' ⟨pl, pv, d1, ⟨pc, pe, pn⟩, rfl, rfl, hP⟩
  rw [lay_bw] at hP ⊢
  have HP := Lib.hid (And.intro hP.sl (And.intro pc (And.intro pe pn)))
  clear hP pc pe pn
  go_wp2_with fail
  refine (HOf.out _).mono ?_
  rintro e w' ⟨v, d2, rfl, rfl, oa, oc, ol, og, rfl, hO, ok, on⟩
  rw [lay_bw] at hO ⊢
  have HO := Lib.hid (And.intro hO.sl (And.intro ok on))
  have hf0 := num_f0 oa ol.length oc og (lay w [.inr d2, .inr d1])
  clear hO ok on
  go_wp2_with fail
  clear hf0
  refine (HTi.out (lay w [.inr d2, .inr d1]) _ _ _ _ (sl_on (A := [.inr d2]) HP.out.1) HO.out.1 HP.out.2.1.1 HO.out.2.1.can.1 (by have := HP.out.2.2.2; have := HK.out; omega) (by have := HO.out.2.2; omega)).mono ?_
  rintro e w' ⟨xl, xv, d3, ⟨xc, xe, xn⟩, rfl, rfl, hX⟩
  rw [lay_bw] at hX ⊢
  have HX := Lib.hid (And.intro hX.sl (And.intro xc (And.intro xe xn)))
  clear hX xc xe xn
  go_wp2_with fail
  refine (HPa.out _ _ _ HX.out.1 HX.out.2.1.1 (by have := HX.out.2.2.2; have := HP.out.2.2.2; have := HO.out.2.2; have := HK.out; omega)).mono ?_
  rintro e w' ⟨yl, yv, d4, ⟨yc, ye, yn⟩, rfl, rfl, hY⟩
  rw [lay_bw] at hY ⊢
  have hyt : valD yl = ((tM (piK k) r : Nat) : Int) := by
    rw [ye, HX.out.2.2.1, HP.out.2.2.1, HO.out.2.1.abs]
    unfold tM
    rw [Int.natAbs_natCast, Int.mul_comm, ← Int.natCast_mul]
    first | exact (Int.natCast_ediv (r * piK k) 10800000).symm | exact (Int.ofNat_ediv (r * piK k) 10800000).symm
  have hyn : yl.length ≤ 10 := by have := HX.out.2.2.2; have := HP.out.2.2.2; have := HO.out.2.2; have := HK.out; omega
  obtain ⟨ya, yk, rfl⟩ := sl_form hY.sl
  have HY := Lib.hid (And.intro hY.sl (And.intro yc (And.intro hyt hyn)))
  clear hY yc ye yn hyt hyn
  go_wp2_with fail
  refine (HTi.out _ _ _ _ _ HY.out.1 HY.out.1 HY.out.2.1.1 HY.out.2.1.1 (by have := HY.out.2.2.2; omega) (by have := HY.out.2.2.2; omega)).mono ?_
  rintro e w' ⟨zl, zv, d5, ⟨zc, ze, zn⟩, rfl, rfl, hZ⟩
  rw [lay_bw] at hZ ⊢
  have HZ := Lib.hid (And.intro hZ.sl (And.intro zc (And.intro ze zn)))
  clear hZ zc ze zn
  go_wp2_with fail
  refine (HDr.out _ _ _ HZ.out.1).mono ?_
  rintro e w' ⟨sv, d6, rfl, rfl, hS⟩
  rw [lay_bw] at hS ⊢
  have hsq : valD (zl.drop k) = ((sqM (mK k) (piK k) r : Nat) : Int) := by
    rw [drop_val HZ.out.2.1.1, HZ.out.2.2.1, HY.out.2.2.1, ← hQ.out.1]
    unfold sqM
    push_cast
    rfl
  have HS := Lib.hid (And.intro hS (And.intro (drop_can HZ.out.2.1 k) hsq))
  clear hS hsq
  cases b
  · go_wp2_with fail
    refine (HSe.out _ _ _ _ _ 2 _ _ (sl_on (A := [_, _]) HY.out.1) HS.out.1 HY.out.2.1 HS.out.2.1 HY.out.2.2.1 HS.out.2.2 hQ.out.2.2.2 hQ.out.2.2.1 (by decide) (by decide)).mono ?_
    rintro e w' ⟨rl, rv, d7, ⟨rc, re, rn⟩, rfl, rfl, hR⟩
    rw [lay_bw] at hR ⊢
    have HRR := Lib.hid (And.intro hR (And.intro rc (And.intro re rn)))
    clear hR rc re rn
    go_wp2_with fail
    go_ret
    obtain ⟨y, hy⟩ := lay_ex w [.inr d7, .inr d6, .inr d5, .inr d4, .inr d3, .inr d2, .inr d1]
    refine ⟨rl, _, y, ⟨HRR.out.2.1, HRR.out.2.2.1, HRR.out.2.2.2⟩, rfl, hy, ?_⟩
    rw [← hy]
    exact HRR.out.1.le (lay_below (w := w) (A := [.inr d6, .inr d5, .inr d4, .inr d3, .inr d2, .inr d1]) (B := [])).size
  · go_wp2_with fail
    refine (HUn.out _).mono ?_
    rintro e w' ⟨ul, uv, d8, ⟨uc, ue, un⟩, rfl, rfl, hU⟩
    rw [lay_bw] at hU ⊢
    have HU := Lib.hid (And.intro hU.sl (And.intro uc (show valD ul = ((mK k : Nat) : Int) by rw [ue, hQ.out.1])))
    clear hU uc ue un
    go_wp2_with fail
    refine (HSe.out _ _ _ _ _ 1 _ _ HU.out.1 (sl_on (A := [_]) HS.out.1) HU.out.2.1 HS.out.2.1 HU.out.2.2 HS.out.2.2 (Nat.le_refl _) hQ.out.2.2.1 (by decide) (by decide)).mono ?_
    rintro e w' ⟨rl, rv, d7, ⟨rc, re, rn⟩, rfl, rfl, hR⟩
    rw [lay_bw] at hR ⊢
    have HRR := Lib.hid (And.intro hR (And.intro rc (And.intro re rn)))
    clear hR rc re rn
    go_wp2_with fail
    go_ret
    obtain ⟨y, hy⟩ := lay_ex w [.inr d7, .inr d8, .inr d6, .inr d5, .inr d4, .inr d3, .inr d2, .inr d1]
    refine ⟨rl, _, y, ⟨HRR.out.2.1, HRR.out.2.2.1, HRR.out.2.2.2⟩, rfl, hy, ?_⟩
    rw [← hy]
    exact HRR.out.1.le (lay_below (w := w) (A := [.inr d8, .inr d6, .inr d5, .inr d4, .inr d3, .inr d2, .inr d1]) (B := [])).size
theorem numk_pos {l : List Int} (h : Can l) : NumK false l (valD l) := by
  have := NumK.sign (neg := false) h
  rwa [show numV false l = valD l from rfl, show (if l = [] then false else false) = false by split <;> rfl] at this
theorem r6_NearW (n k q r m : Nat) (b : Bool) (z : Int) (w : World) (hk : k = 3 ∨ k = 4) (hm : m ≤ 2700000) (hq : q = 0 ∨ q = 1) (hn : n = 5400000 * q + r) (hr : r < 5400000) (hc : (r ≤ 2700000 ∧ m = r ∧ b = decide (q = 1)) ∨ (2700000 < r ∧ m = 5400000 - r ∧ b = !decide (q = 1))) (hz : smM k m b = z) :
    Calls Tryz.prog 295 #[.int .i64 (n : Int), .int .i64 (k : Int)] w (NmPO w z 300) := by
  have HSm := Lib.hid (fun W => r6_small m k b W hm hk)
  rw [hz] at HSm
  have e1 : (n : Int).tmod 21600000 = (n : Int) := by rw [Int.tmod_eq_emod_of_nonneg (by omega)]; omega
  have e2 : (n : Int).tdiv 5400000 = (q : Int) := by rw [Int.tdiv_eq_ediv_of_nonneg (by omega)]; omega
  have e3 : (n : Int).tmod 5400000 = (r : Int) := by rw [Int.tmod_eq_emod_of_nonneg (by omega)]; omega
  have f1 : (n : Int) % 21600000 = (n : Int) := by omega
  have f2 : (n : Int) / 5400000 = (q : Int) := by omega
  have f3 : (n : Int) % 5400000 = (r : Int) := by omega
  have x0 : (0 : Int) ≤ (n : Int) := by omega
  have y0 : (0 : Int) ≤ (r : Int) := by omega
  have kn : IntKind.i64.wrap (n : Int) = (n : Int) := IntWalk.i64_in _ (by omega)
  have kr : IntKind.i64.wrap (r : Int) = (r : Int) := IntWalk.i64_in _ (by omega)
  have hfin : ∀ (l : List Int) (A : Option Addr) (c : Nat) (d1 : Ext) (w' : World), w' = lay w [.inr d1, .inl (.cells #[.slice A l.length c, .bool false] 276 (0, 0))] → Can l → valD l = z → l.length ≤ 300 → Ow (lay w [.inr d1, .inl (.cells #[.slice none 0 0, .bool false] 276 (0, 0))]) (lay w [.inl (.cells #[.slice none 0 0, .bool false] 276 (0, 0))]).heap.size (.slice A l.length c) l → ∃ d, w' = bw w d ∧ NmKO (bw w d) w.heap.size (.agg #[.slice A l.length c, .bool false]) z 300 := by
    rintro l A c d1 w' rfl hc hv hl ho
    obtain ⟨y, hy⟩ := lay_ex w [.inr d1, .inl (.cells #[.slice A l.length c, .bool false] 276 (0, 0))]
    refine ⟨y, hy, A, c, l, false, rfl, ?_, by rw [← hv]; exact numk_pos hc, hl⟩
    rw [← hy]
    exact (ow_swap (.cells #[.slice A l.length c, .bool false] 276 (0, 0)) (lay_lt w _ _) ho).le (lay_extends w _).size
  have HF := Lib.hid hfin
  clear hfin hn
  rcases hq with rfl | rfl
  · rcases hc with ⟨c1, rfl, rfl⟩ | ⟨c1, rfl, rfl⟩
    · have c2 : ¬ (2700000 : Int) < (m : Int) := by omega
      rw [show decide (((0 : Nat)) = 1) = false from rfl] at HSm
      try rw [show (!true) = false from rfl] at HSm
      try rw [show (!false) = true from rfl] at HSm
      refine lay_start ?_
      go_enter Tryz.func295, Tryz.ntmps295
      go_wp2_with fail
      try simp only [f1, f2, f3]
      try rw [show (!false) = (!(false : Bool)) from rfl]
      try rw [show (((((0 : Nat)) : Int) % 2 == 1) : Bool) = false from rfl]
      clear e1 e2 e3 f1 f2 f3
      with_reducible refine (HSm.out _).mono ?_
      rintro e w' ⟨l, v, d1, ⟨hc, hv, hl⟩, rfl, rfl, hO⟩
      rw [lay_bw] at hO ⊢
      obtain ⟨A, c, rfl⟩ := hO.form
      have HFF := Lib.hid (HF.out l A c d1 _ rfl hc hv hl hO)
      obtain ⟨n1, hn1⟩ : ∃ n1, l.length = n1 := ⟨_, rfl⟩
      rw [hn1] at HFF ⊢
      clear hc hv hl hO HF HSm
      go_wp2_with fail
      refine bodyPost_ret (v := .agg #[.slice A n1 c, .bool false]) (by simp [results, Tryz.results295, go_sem]) rfl ?_
      obtain ⟨y, hy, hk2⟩ := HFF.out
      exact ⟨_, y, rfl, hy, hk2⟩
    · obtain ⟨m2, hm2⟩ : ∃ m2, 5400000 - r = m2 := ⟨_, rfl⟩
      rw [hm2] at HSm
      have c2 : (2700000 : Int) < (r : Int) := by omega
      have c3 : (5400000 : Int) - (r : Int) = (m2 : Int) := by omega
      have km : IntKind.i64.wrap (m2 : Int) = (m2 : Int) := IntWalk.i64_in _ (by omega)
      rw [show decide (((0 : Nat)) = 1) = false from rfl] at HSm
      try rw [show (!true) = false from rfl] at HSm
      try rw [show (!false) = true from rfl] at HSm
      refine lay_start ?_
      go_enter Tryz.func295, Tryz.ntmps295
      go_wp2_with fail
      try simp only [f1, f2, f3]
      try rw [show (!false) = (!(false : Bool)) from rfl]
      try rw [show (((((0 : Nat)) : Int) % 2 == 1) : Bool) = false from rfl]
      clear e1 e2 e3 f1 f2 f3
      with_reducible refine (HSm.out _).mono ?_
      rintro e w' ⟨l, v, d1, ⟨hc, hv, hl⟩, rfl, rfl, hO⟩
      rw [lay_bw] at hO ⊢
      obtain ⟨A, c, rfl⟩ := hO.form
      have HFF := Lib.hid (HF.out l A c d1 _ rfl hc hv hl hO)
      obtain ⟨n1, hn1⟩ : ∃ n1, l.length = n1 := ⟨_, rfl⟩
      rw [hn1] at HFF ⊢
      clear hc hv hl hO HF HSm
      go_wp2_with fail
      refine bodyPost_ret (v := .agg #[.slice A n1 c, .bool false]) (by simp [results, Tryz.results295, go_sem]) rfl ?_
      obtain ⟨y, hy, hk2⟩ := HFF.out
      exact ⟨_, y, rfl, hy, hk2⟩
  · rcases hc with ⟨c1, rfl, rfl⟩ | ⟨c1, rfl, rfl⟩
    · have c2 : ¬ (2700000 : Int) < (m : Int) := by omega
      rw [show decide (((1 : Nat)) = 1) = true from rfl] at HSm
      try rw [show (!true) = false from rfl] at HSm
      try rw [show (!false) = true from rfl] at HSm
      refine lay_start ?_
      go_enter Tryz.func295, Tryz.ntmps295
      go_wp2_with fail
      try simp only [f1, f2, f3]
      try rw [show (!true) = (!(true : Bool)) from rfl]
      try rw [show (((((1 : Nat)) : Int) % 2 == 1) : Bool) = true from rfl]
      clear e1 e2 e3 f1 f2 f3
      with_reducible refine (HSm.out _).mono ?_
      rintro e w' ⟨l, v, d1, ⟨hc, hv, hl⟩, rfl, rfl, hO⟩
      rw [lay_bw] at hO ⊢
      obtain ⟨A, c, rfl⟩ := hO.form
      have HFF := Lib.hid (HF.out l A c d1 _ rfl hc hv hl hO)
      obtain ⟨n1, hn1⟩ : ∃ n1, l.length = n1 := ⟨_, rfl⟩
      rw [hn1] at HFF ⊢
      clear hc hv hl hO HF HSm
      go_wp2_with fail
      refine bodyPost_ret (v := .agg #[.slice A n1 c, .bool false]) (by simp [results, Tryz.results295, go_sem]) rfl ?_
      obtain ⟨y, hy, hk2⟩ := HFF.out
      exact ⟨_, y, rfl, hy, hk2⟩
    · obtain ⟨m2, hm2⟩ : ∃ m2, 5400000 - r = m2 := ⟨_, rfl⟩
      rw [hm2] at HSm
      have c2 : (2700000 : Int) < (r : Int) := by omega
      have c3 : (5400000 : Int) - (r : Int) = (m2 : Int) := by omega
      have km : IntKind.i64.wrap (m2 : Int) = (m2 : Int) := IntWalk.i64_in _ (by omega)
      rw [show decide (((1 : Nat)) = 1) = true from rfl] at HSm
      try rw [show (!true) = false from rfl] at HSm
      try rw [show (!false) = true from rfl] at HSm
      refine lay_start ?_
      go_enter Tryz.func295, Tryz.ntmps295
      go_wp2_with fail
      try simp only [f1, f2, f3]
      try rw [show (!true) = (!(true : Bool)) from rfl]
      try rw [show (((((1 : Nat)) : Int) % 2 == 1) : Bool) = true from rfl]
      clear e1 e2 e3 f1 f2 f3
      with_reducible refine (HSm.out _).mono ?_
      rintro e w' ⟨l, v, d1, ⟨hc, hv, hl⟩, rfl, rfl, hO⟩
      rw [lay_bw] at hO ⊢
      obtain ⟨A, c, rfl⟩ := hO.form
      have HFF := Lib.hid (HF.out l A c d1 _ rfl hc hv hl hO)
      obtain ⟨n1, hn1⟩ : ∃ n1, l.length = n1 := ⟨_, rfl⟩
      rw [hn1] at HFF ⊢
      clear hc hv hl hO HF HSm
      go_wp2_with fail
      refine bodyPost_ret (v := .agg #[.slice A n1 c, .bool false]) (by simp [results, Tryz.results295, go_sem]) rfl ?_
      obtain ⟨y, hy, hk2⟩ := HFF.out
      exact ⟨_, y, rfl, hy, hk2⟩
end Go.Proofs.YtnnmfdeeicpdlaaGreat
/- The reference's quick sine of the first eighth of a turn. -/
namespace Go.Proofs.YtnnmfdeeicpdlaaGreat
set_option maxHeartbeats 4000000
set_option maxRecDepth 100000
open Go.RowKit

theorem shr31 (a : Nat) : (a : Int) / 2147483648 = ((a / 2147483648 : Nat) : Int) := (Int.natCast_ediv a 2147483648).symm
theorem i64_and31 (n : Int) : bits .and .i64 n 2147483647 = n % 2147483648 := by
  have h127 : (BitVec.ofInt 64 2147483647).toNat = 2 ^ 31 - 1 := by decide
  have key : (BitVec.ofInt 64 n &&& BitVec.ofInt 64 2147483647).toNat = (n % ((2 ^ 64 : Nat) : Int)).toNat % 2 ^ 31 := by
    rw [BitVec.toNat_and, BitVec.toNat_ofInt, h127, Nat.and_two_pow_sub_one_eq_mod]
  show IntKind.i64.wrap ((BitVec.ofInt 64 n &&& BitVec.ofInt 64 2147483647).toNat : Nat) = n % 2147483648
  rw [key, IntKind.wrap_i64]
  omega
theorem high_bd {h a b : Nat} (hh : 0 < h) (ha : a ≤ h * h) (hb : b ≤ h * h) : a / h ≤ h ∧ b / h ≤ h ∧ a % h < h ∧ b % h < h :=
  ⟨Nat.div_le_of_le_mul ha, Nat.div_le_of_le_mul hb, Nat.mod_lt _ hh, Nat.mod_lt _ hh⟩
theorem r6_high (a b : Nat) (w : World) (ha : a ≤ 4611686018427387904) (hb : b ≤ 4611686018427387904) :
    Calls Tryz.prog 347 #[.int .i64 (a : Int), .int .i64 (b : Int)] w fun e w' => e = .returned (.int .i64 (higN h31 a b : Int)) ∧ w' = w := by
  obtain ⟨h1, h2, h3, h4⟩ := high_bd (h := 2147483648) (a := a) (b := b) (by decide) ha hb
  rw [show higN h31 a b = a / 2147483648 * (b / 2147483648) + a / 2147483648 * (b % 2147483648) / 2147483648 + a % 2147483648 * (b / 2147483648) / 2147483648 from rfl]
  have ea := shr31 a
  have eb := shr31 b
  have ma := i64_and31 (a : Int)
  have mb := i64_and31 (b : Int)
  rw [show (a : Int) % 2147483648 = ((a % 2147483648 : Nat) : Int) from (Int.natCast_emod a 2147483648).symm] at ma
  rw [show (b : Int) % 2147483648 = ((b % 2147483648 : Nat) : Int) from (Int.natCast_emod b 2147483648).symm] at mb
  obtain ⟨a1, ha1⟩ : ∃ a1, a / 2147483648 = a1 := ⟨_, rfl⟩
  obtain ⟨b1, hb1⟩ : ∃ b1, b / 2147483648 = b1 := ⟨_, rfl⟩
  obtain ⟨a0, ha0⟩ : ∃ a0, a % 2147483648 = a0 := ⟨_, rfl⟩
  obtain ⟨b0, hb0⟩ : ∃ b0, b % 2147483648 = b0 := ⟨_, rfl⟩
  rw [ha1] at ea h1 ⊢
  rw [hb1] at eb h2 ⊢
  rw [ha0] at ma h3 ⊢
  rw [hb0] at mb h4 ⊢
  have p1 : a1 * b1 ≤ 2147483648 * 2147483648 := Nat.mul_le_mul h1 h2
  have p2 : a1 * b0 ≤ 2147483648 * 2147483648 := Nat.mul_le_mul h1 (by omega)
  have p3 : a0 * b1 ≤ 2147483648 * 2147483648 := Nat.mul_le_mul (by omega) h2
  obtain ⟨x, hx⟩ : ∃ x, a1 * b1 = x := ⟨_, rfl⟩
  obtain ⟨y, hy⟩ : ∃ y, a1 * b0 = y := ⟨_, rfl⟩
  obtain ⟨z, hz⟩ : ∃ z, a0 * b1 = z := ⟨_, rfl⟩
  have ex : (a1 : Int) * (b1 : Int) = (x : Int) := by rw [← hx]; exact (Int.natCast_mul _ _).symm
  have ey : (a1 : Int) * (b0 : Int) = (y : Int) := by rw [← hy]; exact (Int.natCast_mul _ _).symm
  have ez : (a0 : Int) * (b1 : Int) = (z : Int) := by rw [← hz]; exact (Int.natCast_mul _ _).symm
  rw [hx] at p1 ⊢
  rw [hy] at p2 ⊢
  rw [hz] at p3 ⊢
  have ky := shr31 y
  have kz := shr31 z
  obtain ⟨y1, hy1⟩ : ∃ y1, y / 2147483648 = y1 := ⟨_, rfl⟩
  obtain ⟨z1, hz1⟩ : ∃ z1, z / 2147483648 = z1 := ⟨_, rfl⟩
  have by1 : y1 ≤ 2147483648 := by omega
  have bz1 : z1 ≤ 2147483648 := by omega
  rw [hy1] at ky ⊢
  rw [hz1] at kz ⊢
  have kx : IntKind.i64.wrap (x : Int) = x := IntWalk.i64_in _ (by omega)
  have kyw : IntKind.i64.wrap (y : Int) = y := IntWalk.i64_in _ (by omega)
  have kzw : IntKind.i64.wrap (z : Int) = z := IntWalk.i64_in _ (by omega)
  obtain ⟨s1, hs1⟩ : ∃ s1 : Int, (x : Int) + (y1 : Int) = s1 := ⟨_, rfl⟩
  obtain ⟨s2, hs2⟩ : ∃ s2 : Int, s1 + (z1 : Int) = s2 := ⟨_, rfl⟩
  have ks1 : IntKind.i64.wrap s1 = s1 := IntWalk.i64_in _ (by omega)
  have ks2 : IntKind.i64.wrap s2 = s2 := IntWalk.i64_in _ (by omega)
  rw [show ((x + y1 + z1 : Nat) : Int) = s2 by omega]
  clear hx hy hz hy1 hz1 ha1 hb1 ha0 hb0 p1 p2 p3 h1 h2 h3 h4 by1 bz1 ha hb
  go_enter Tryz.func347, Tryz.ntmps347
  go_wp2_with fail
  go_ret
  exact ⟨rfl, rfl⟩
def qkV (r : Nat) (c : Bool) : Int := altS h31 (higN h31 (quiX r) (quiX r)) 64 (if c then h31 * h31 else quiX r) (if c then 1 else 2)
structure QkI (sq t0 : Nat) (V : Int) (t d : Nat) (sm : Int) : Prop where
  ex : ∃ f, f ≤ 32 ∧ d + 4 * f ≤ 130 ∧ t < 2 ^ (2 * f) ∧ sm + altS h31 sq (2 * f) t d = V
  d1 : 1 ≤ d
  s0 : 0 ≤ sm
  st : sm + t ≤ t0
theorem QkI.done {sq t0 d : Nat} {V sm : Int} (h : QkI sq t0 V 0 d sm) : sm = V := by
  obtain ⟨f, -, -, -, hv⟩ := h.ex
  rw [altS_zero] at hv
  omega
theorem QkI.step {sq t0 t d t1 t2 : Nat} {V sm : Int} (h : QkI sq t0 V t d sm) (hsq : sq ≤ h31 * h31) (ht : 0 < t) (h1 : nexT h31 sq t d = t1) (h2 : nexT h31 sq t1 (d + 2) = t2) :
    QkI sq t0 V t2 (d + 4) (sm + t - t1) ∧ t1 * 2 ≤ t ∧ t2 * 2 ≤ t1 ∧ d ≤ 126 := by
  obtain ⟨f, hf, hdf, htf, hv⟩ := h.ex
  have l1 := nexT_le (sq := sq) (t := t) (d := d) h31_pos hsq h.d1
  have l2 := nexT_le (sq := sq) (t := t1) (d := d + 2) h31_pos hsq (by have := h.d1; omega)
  rw [h1] at l1
  rw [h2] at l2
  have hst := h.st
  have hs0 := h.s0
  match f, hf, hdf, htf, hv with
  | 0, _, _, htf, _ => exfalso; simp at htf; omega
  | f + 1, hf, hdf, htf, hv =>
    refine ⟨⟨⟨f, by omega, by omega, ?_, ?_⟩, by omega, by omega, by omega⟩, l1, l2, by omega⟩
    · rw [show 2 * (f + 1) = 2 * f + 2 by omega, Nat.pow_add] at htf
      omega
    · rw [show 2 * (f + 1) = 2 * f + 1 + 1 by omega] at hv
      simp only [altS] at hv
      rw [h1, h2, show d + 2 + 2 = d + 4 by omega] at hv
      omega
theorem tdiv_nat (g D t : Nat) (h : g / D = t) : (g : Int).tdiv (D : Int) = (t : Int) ∧ (g : Int) / (D : Int) = (t : Int) := by
  have e : (g : Int) / (D : Int) = (t : Int) := by rw [← h]; exact (Int.natCast_ediv g D).symm
  exact ⟨by rw [Int.tdiv_eq_ediv_of_nonneg (by omega)]; exact e, e⟩
theorem r6_quick (r : Nat) (c : Bool) (w : World) (hr : r ≤ 2700000) :
    Calls Tryz.prog 334 #[.int .i64 (r : Int), .bool c] w fun e w' => e = .returned (.int .i64 (qkV r c)) ∧ ∃ d, w' = bw w d := by
  obtain ⟨hs1, hs2, -, -⟩ := quiSq hr
  rw [show h31 * h31 = 4611686018427387904 from rfl] at hs1 hs2
  have HX := Lib.hid (fun W => r6_high (quiX r) (quiX r) W hs2 hs2)
  obtain ⟨p, hp⟩ : ∃ p, r * 2620088056 = p := ⟨_, rfl⟩
  obtain ⟨p2, hp2⟩ : ∃ p2, p * 512 = p2 := ⟨_, rfl⟩
  obtain ⟨q, hq⟩ : ∃ q, r * 658911831 = q := ⟨_, rfl⟩
  obtain ⟨q2, hq2⟩ : ∃ q2, q / 4194304 = q2 := ⟨_, rfl⟩
  obtain ⟨X, hX⟩ : ∃ X, quiX r = X := ⟨_, rfl⟩
  have hX2 : p2 + q2 = X := by rw [← hX, ← hp2, ← hq2, ← hp, ← hq]; rfl
  obtain ⟨SQ, hSQ⟩ : ∃ SQ, higN h31 X X = SQ := ⟨_, rfl⟩
  unfold qkV
  rw [hX] at HX hs1 hs2 ⊢
  rw [hSQ] at HX hs1 ⊢
  have e1 : (r : Int) * 2620088056 = (p : Int) := by omega
  have k1 : IntKind.i64.wrap (p : Int) = (p : Int) := IntWalk.i64_in _ (by omega)
  have e2 : (p : Int) * 512 = (p2 : Int) := by omega
  have k2 : IntKind.i64.wrap (p2 : Int) = (p2 : Int) := IntWalk.i64_in _ (by omega)
  have e3 : (r : Int) * 658911831 = (q : Int) := by omega
  have k3 : IntKind.i64.wrap (q : Int) = (q : Int) := IntWalk.i64_in _ (by omega)
  have e4 : (q : Int) / 4194304 = (q2 : Int) := by omega
  have e5 : (p2 : Int) + (q2 : Int) = (X : Int) := by omega
  have k5 : IntKind.i64.wrap (X : Int) = (X : Int) := IntWalk.i64_in _ (by omega)
  have hsq : Hid (SQ ≤ h31 * h31 ∧ SQ ≤ 4611686018427387904) := Lib.hid ⟨hs1, hs1⟩
  have hXb := Lib.hid hs2
  clear hs1 hs2 hX hX2 hSQ hp hp2 hq hq2 hr
  refine lay_start ?_
  cases c
  · obtain ⟨V, hV⟩ : ∃ V, altS h31 SQ 64 (if false = true then h31 * h31 else X) (if false = true then 1 else 2) = V := ⟨_, rfl⟩
    rw [hV]
    rw [if_neg (by decide), if_neg (by decide)] at hV
    have HI : Hid (QkI SQ X V X 2 0) := Lib.hid ⟨⟨32, by decide, by decide, Nat.lt_of_le_of_lt hXb.out (by decide), by rw [Int.zero_add]; exact hV⟩, by decide, by decide, by omega⟩
    have HB : Hid (X ≤ 4611686018427387904) := hXb
    clear hV
    go_enter Tryz.func334, Tryz.ntmps334
    go_wp2_with (go_at_call 347; refine (HX.out _).mono ?_; rintro e w' ⟨rfl, hw⟩; rw [hw]; clear hw)
    go_loopw [7, 8, 9] (fun v7 v8 v9 wr => ∃ (t dn : Nat) (sm : Int) (dd : Ext), v7 = .int .i64 (t : Int) ∧ v8 = .int .i64 (dn : Int) ∧ v9 = .int .i64 sm ∧ wr = lay w [.inr dd] ∧ QkI SQ X V t dn sm) (fun v7 _ _ _ => (intOf v7).toNat)
    case atStart => exact ⟨X, 2, 0, noExt _, rfl, rfl, rfl, (bw_noExt _).symm, HI.out⟩
    case round =>
      obtain ⟨t, dn, sm, dd, rfl, rfl, rfl, rfl, hI⟩ := hrel
      by_cases ht0 : t = 0
      · subst ht0
        have hd := hI.done
        subst hd
        clear hI
        go_wp2_with fail
        go_ret
        exact ⟨rfl, lay_ex _ _⟩
      · obtain ⟨t1, h1⟩ : ∃ t1, nexT h31 SQ t dn = t1 := ⟨_, rfl⟩
        obtain ⟨t2, h2⟩ : ∃ t2, nexT h31 SQ t1 (dn + 2) = t2 := ⟨_, rfl⟩
        obtain ⟨hI2, l1, l2, ldn⟩ := hI.step hsq.out.1 (by omega) h1 h2
        have hst := hI.st
        have hs0 := hI.s0
        have hd1 := hI.d1
        have hB2 := HB.out
        have hst2 := hI2.st
        have hs02 := hI2.s0
        obtain ⟨D1, hD1⟩ : ∃ D1, dn * (dn + 1) = D1 := ⟨_, rfl⟩
        obtain ⟨D2, hD2⟩ : ∃ D2, (dn + 2) * (dn + 2 + 1) = D2 := ⟨_, rfl⟩
        have hD1b : 1 ≤ D1 ∧ D1 ≤ 40000 := by
          rw [← hD1]
          exact ⟨Nat.le_trans (by decide) (Nat.mul_le_mul hd1 (show 1 ≤ dn + 1 by omega)), Nat.le_trans (Nat.mul_le_mul (show dn ≤ 200 by omega) (show dn + 1 ≤ 200 by omega)) (by decide)⟩
        have hD2b : 1 ≤ D2 ∧ D2 ≤ 40000 := by
          rw [← hD2]
          exact ⟨Nat.le_trans (by decide) (Nat.mul_le_mul (show 1 ≤ dn + 2 by omega) (show 1 ≤ dn + 2 + 1 by omega)), Nat.le_trans (Nat.mul_le_mul (show dn + 2 ≤ 200 by omega) (show dn + 2 + 1 ≤ 200 by omega)) (by decide)⟩
        obtain ⟨g1, hg1⟩ : ∃ g1, higN h31 t SQ = g1 := ⟨_, rfl⟩
        obtain ⟨g2, hg2⟩ : ∃ g2, higN h31 t1 SQ = g2 := ⟨_, rfl⟩
        have H1 := Lib.hid (fun W => r6_high t SQ W (by omega) hsq.out.2)
        have H2 := Lib.hid (fun W => r6_high t1 SQ W (by omega) hsq.out.2)
        rw [hg1] at H1
        rw [hg2] at H2
        have q1 := tdiv_nat g1 D1 t1 (by rw [← h1, ← hg1, ← hD1]; rfl)
        have q2 := tdiv_nat g2 D2 t2 (by rw [← h2, ← hg2, ← hD2]; rfl)
        obtain ⟨q1a, q1b⟩ := q1
        obtain ⟨q2a, q2b⟩ := q2
        have f1 : (dn : Int) * ((dn : Int) + 1) = (D1 : Int) := by rw [← hD1]; exact (Int.natCast_mul _ _).symm
        obtain ⟨u1, hu1⟩ : ∃ u1 : Int, (dn : Int) + 1 = u1 := ⟨_, rfl⟩
        rw [hu1] at f1
        have f2 : ((dn + 2 : Nat) : Int) * ((dn + 2 + 1 : Nat) : Int) = (D2 : Int) := by rw [← hD2]; exact (Int.natCast_mul _ _).symm
        obtain ⟨u2, hu2⟩ : ∃ u2 : Int, (dn : Int) + 2 = u2 := ⟨_, rfl⟩
        obtain ⟨u3, hu3⟩ : ∃ u3 : Int, (dn : Int) + 3 = u3 := ⟨_, rfl⟩
        rw [show ((dn + 2 : Nat) : Int) = u2 by omega, show ((dn + 2 + 1 : Nat) : Int) = u3 by omega] at f2
        obtain ⟨u4, hu4⟩ : ∃ u4 : Nat, dn + 4 = u4 := ⟨_, rfl⟩
        have hu5 : (dn : Int) + 4 = (u4 : Int) := by omega
        have w1 : IntKind.i64.wrap u1 = u1 := IntWalk.i64_in _ (by omega)
        have w2 : IntKind.i64.wrap u2 = u2 := IntWalk.i64_in _ (by omega)
        have w3 : IntKind.i64.wrap u3 = u3 := IntWalk.i64_in _ (by omega)
        have w4 : IntKind.i64.wrap (u4 : Int) = (u4 : Int) := IntWalk.i64_in _ (by omega)
        have w5 : IntKind.i64.wrap (D1 : Int) = (D1 : Int) := IntWalk.i64_in _ (by omega)
        have w6 : IntKind.i64.wrap (D2 : Int) = (D2 : Int) := IntWalk.i64_in _ (by omega)
        have w7 : IntKind.i64.wrap (t1 : Int) = (t1 : Int) := IntWalk.i64_in _ (by omega)
        have w8 : IntKind.i64.wrap (t2 : Int) = (t2 : Int) := IntWalk.i64_in _ (by omega)
        obtain ⟨m1, hm1⟩ : ∃ m1 : Int, sm + (t : Int) = m1 := ⟨_, rfl⟩
        obtain ⟨m2, hm2⟩ : ∃ m2 : Int, m1 - (t1 : Int) = m2 := ⟨_, rfl⟩
        have w9 : IntKind.i64.wrap m1 = m1 := IntWalk.i64_in _ (by omega)
        have w10 : IntKind.i64.wrap m2 = m2 := IntWalk.i64_in _ (by omega)
        have z1 : ((D1 : Int) == 0) = false := beq_eq_false_iff_ne.2 (by omega)
        have z2 : ((D2 : Int) == 0) = false := beq_eq_false_iff_ne.2 (by omega)
        have z3 : (D1 : Int) ≠ 0 := by omega
        have z4 : (D2 : Int) ≠ 0 := by omega
        have g0 : (0 : Int) < (t : Int) := by omega
        have g0' : 0 < t := by omega
        have HN : Hid (QkI SQ X V t2 u4 m2) := Lib.hid (by rw [← hu4, ← hm2, ← hm1]; exact hI2)
        have HL := Lib.hid (show t2 < t by omega)
        clear hI hI2 l1 l2 ldn hst hs0 hd1 hB2 hst2 hs02 hD1b hD2b hg1 hg2 h1 h2 hD1 hD2 hu4
        go_wp2_with (go_at_call 347; first | (with_reducible refine (H1.out _).mono ?_; rintro e w' ⟨rfl, rfl⟩) | (with_reducible refine (H2.out _).mono ?_; rintro e w' ⟨rfl, rfl⟩))
        go_roundw
        case rel => exact ⟨t2, u4, m2, dd, rfl, rfl, rfl, rfl, HN.out⟩
        case measure => have := HL.out; simp [intOf]; omega
  · obtain ⟨V, hV⟩ : ∃ V, altS h31 SQ 64 (if true = true then h31 * h31 else X) (if true = true then 1 else 2) = V := ⟨_, rfl⟩
    rw [hV]
    rw [if_pos rfl, if_pos rfl] at hV
    have HI : Hid (QkI SQ 4611686018427387904 V 4611686018427387904 1 0) := Lib.hid ⟨⟨32, by decide, by decide, by decide, by rw [Int.zero_add]; exact hV⟩, by decide, by decide, by decide⟩
    have HB : Hid ((4611686018427387904 : Nat) ≤ 4611686018427387904) := Lib.hid (Nat.le_refl _)
    clear hV
    go_enter Tryz.func334, Tryz.ntmps334
    go_wp2_with (go_at_call 347; refine (HX.out _).mono ?_; rintro e w' ⟨rfl, hw⟩; rw [hw]; clear hw)
    go_loopw [7, 8, 9] (fun v7 v8 v9 wr => ∃ (t dn : Nat) (sm : Int) (dd : Ext), v7 = .int .i64 (t : Int) ∧ v8 = .int .i64 (dn : Int) ∧ v9 = .int .i64 sm ∧ wr = lay w [.inr dd] ∧ QkI SQ 4611686018427387904 V t dn sm) (fun v7 _ _ _ => (intOf v7).toNat)
    case atStart => exact ⟨4611686018427387904, 1, 0, noExt _, rfl, rfl, rfl, (bw_noExt _).symm, HI.out⟩
    case round =>
      obtain ⟨t, dn, sm, dd, rfl, rfl, rfl, rfl, hI⟩ := hrel
      by_cases ht0 : t = 0
      · subst ht0
        have hd := hI.done
        subst hd
        clear hI
        go_wp2_with fail
        go_ret
        exact ⟨rfl, lay_ex _ _⟩
      · obtain ⟨t1, h1⟩ : ∃ t1, nexT h31 SQ t dn = t1 := ⟨_, rfl⟩
        obtain ⟨t2, h2⟩ : ∃ t2, nexT h31 SQ t1 (dn + 2) = t2 := ⟨_, rfl⟩
        obtain ⟨hI2, l1, l2, ldn⟩ := hI.step hsq.out.1 (by omega) h1 h2
        have hst := hI.st
        have hs0 := hI.s0
        have hd1 := hI.d1
        have hB2 := HB.out
        have hst2 := hI2.st
        have hs02 := hI2.s0
        obtain ⟨D1, hD1⟩ : ∃ D1, dn * (dn + 1) = D1 := ⟨_, rfl⟩
        obtain ⟨D2, hD2⟩ : ∃ D2, (dn + 2) * (dn + 2 + 1) = D2 := ⟨_, rfl⟩
        have hD1b : 1 ≤ D1 ∧ D1 ≤ 40000 := by
          rw [← hD1]
          exact ⟨Nat.le_trans (by decide) (Nat.mul_le_mul hd1 (show 1 ≤ dn + 1 by omega)), Nat.le_trans (Nat.mul_le_mul (show dn ≤ 200 by omega) (show dn + 1 ≤ 200 by omega)) (by decide)⟩
        have hD2b : 1 ≤ D2 ∧ D2 ≤ 40000 := by
          rw [← hD2]
          exact ⟨Nat.le_trans (by decide) (Nat.mul_le_mul (show 1 ≤ dn + 2 by omega) (show 1 ≤ dn + 2 + 1 by omega)), Nat.le_trans (Nat.mul_le_mul (show dn + 2 ≤ 200 by omega) (show dn + 2 + 1 ≤ 200 by omega)) (by decide)⟩
        obtain ⟨g1, hg1⟩ : ∃ g1, higN h31 t SQ = g1 := ⟨_, rfl⟩
        obtain ⟨g2, hg2⟩ : ∃ g2, higN h31 t1 SQ = g2 := ⟨_, rfl⟩
        have H1 := Lib.hid (fun W => r6_high t SQ W (by omega) hsq.out.2)
        have H2 := Lib.hid (fun W => r6_high t1 SQ W (by omega) hsq.out.2)
        rw [hg1] at H1
        rw [hg2] at H2
        have q1 := tdiv_nat g1 D1 t1 (by rw [← h1, ← hg1, ← hD1]; rfl)
        have q2 := tdiv_nat g2 D2 t2 (by rw [← h2, ← hg2, ← hD2]; rfl)
        obtain ⟨q1a, q1b⟩ := q1
        obtain ⟨q2a, q2b⟩ := q2
        have f1 : (dn : Int) * ((dn : Int) + 1) = (D1 : Int) := by rw [← hD1]; exact (Int.natCast_mul _ _).symm
        obtain ⟨u1, hu1⟩ : ∃ u1 : Int, (dn : Int) + 1 = u1 := ⟨_, rfl⟩
        rw [hu1] at f1
        have f2 : ((dn + 2 : Nat) : Int) * ((dn + 2 + 1 : Nat) : Int) = (D2 : Int) := by rw [← hD2]; exact (Int.natCast_mul _ _).symm
        obtain ⟨u2, hu2⟩ : ∃ u2 : Int, (dn : Int) + 2 = u2 := ⟨_, rfl⟩
        obtain ⟨u3, hu3⟩ : ∃ u3 : Int, (dn : Int) + 3 = u3 := ⟨_, rfl⟩
        rw [show ((dn + 2 : Nat) : Int) = u2 by omega, show ((dn + 2 + 1 : Nat) : Int) = u3 by omega] at f2
        obtain ⟨u4, hu4⟩ : ∃ u4 : Nat, dn + 4 = u4 := ⟨_, rfl⟩
        have hu5 : (dn : Int) + 4 = (u4 : Int) := by omega
        have w1 : IntKind.i64.wrap u1 = u1 := IntWalk.i64_in _ (by omega)
        have w2 : IntKind.i64.wrap u2 = u2 := IntWalk.i64_in _ (by omega)
        have w3 : IntKind.i64.wrap u3 = u3 := IntWalk.i64_in _ (by omega)
        have w4 : IntKind.i64.wrap (u4 : Int) = (u4 : Int) := IntWalk.i64_in _ (by omega)
        have w5 : IntKind.i64.wrap (D1 : Int) = (D1 : Int) := IntWalk.i64_in _ (by omega)
        have w6 : IntKind.i64.wrap (D2 : Int) = (D2 : Int) := IntWalk.i64_in _ (by omega)
        have w7 : IntKind.i64.wrap (t1 : Int) = (t1 : Int) := IntWalk.i64_in _ (by omega)
        have w8 : IntKind.i64.wrap (t2 : Int) = (t2 : Int) := IntWalk.i64_in _ (by omega)
        obtain ⟨m1, hm1⟩ : ∃ m1 : Int, sm + (t : Int) = m1 := ⟨_, rfl⟩
        obtain ⟨m2, hm2⟩ : ∃ m2 : Int, m1 - (t1 : Int) = m2 := ⟨_, rfl⟩
        have w9 : IntKind.i64.wrap m1 = m1 := IntWalk.i64_in _ (by omega)
        have w10 : IntKind.i64.wrap m2 = m2 := IntWalk.i64_in _ (by omega)
        have z1 : ((D1 : Int) == 0) = false := beq_eq_false_iff_ne.2 (by omega)
        have z2 : ((D2 : Int) == 0) = false := beq_eq_false_iff_ne.2 (by omega)
        have z3 : (D1 : Int) ≠ 0 := by omega
        have z4 : (D2 : Int) ≠ 0 := by omega
        have g0 : (0 : Int) < (t : Int) := by omega
        have g0' : 0 < t := by omega
        have HN : Hid (QkI SQ 4611686018427387904 V t2 u4 m2) := Lib.hid (by rw [← hu4, ← hm2, ← hm1]; exact hI2)
        have HL := Lib.hid (show t2 < t by omega)
        clear hI hI2 l1 l2 ldn hst hs0 hd1 hB2 hst2 hs02 hD1b hD2b hg1 hg2 h1 h2 hD1 hD2 hu4
        go_wp2_with (go_at_call 347; first | (with_reducible refine (H1.out _).mono ?_; rintro e w' ⟨rfl, rfl⟩) | (with_reducible refine (H2.out _).mono ?_; rintro e w' ⟨rfl, rfl⟩))
        go_roundw
        case rel => exact ⟨t2, u4, m2, dd, rfl, rfl, rfl, rfl, HN.out⟩
        case measure => have := HL.out; simp [intOf]; omega
theorem qkV_sin {r : Nat} : qkV r false = altS h31 (higN h31 (quiX r) (quiX r)) 64 (quiX r) 2 := by
  unfold qkV
  rw [if_neg (by decide), if_neg (by decide)]
theorem qkV_cos {r : Nat} : qkV r true = altS h31 (higN h31 (quiX r) (quiX r)) 64 (h31 * h31) 1 := by
  unfold qkV
  rw [if_pos rfl, if_pos rfl]
attribute [irreducible] qkV
end Go.Proofs.YtnnmfdeeicpdlaaGreat

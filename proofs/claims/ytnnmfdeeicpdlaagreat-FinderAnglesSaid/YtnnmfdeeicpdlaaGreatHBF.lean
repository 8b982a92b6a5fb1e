/- Contracts and plain laws, several texts in one: Nr1; Nr2; CiC -/
import Derived.Test.YtnnmfdeeicpdlaaGreatProg
import Derived.WalkKit
import Derived.WalkSpells
import Derived.WalkLawsBesides
import Derived.Lib.Hide
import Derived.BigQuiet
import Derived.Test.YtnnmfdeeicpdlaaGreatHAC
import Derived.Test.YtnnmfdeeicpdlaaGreatHAD
import Derived.Test.YtnnmfdeeicpdlaaGreatHAE
import Derived.Test.YtnnmfdeeicpdlaaGreatHAR
import Derived.Test.YtnnmfdeeicpdlaaGreatHAU
import Derived.Test.YtnnmfdeeicpdlaaGreatHAZ
import Derived.Test.YtnnmfdeeicpdlaaGreatHBA
import Derived.Test.YtnnmfdeeicpdlaaGreatHBB
import Derived.Test.YtnnmfdeeicpdlaaGreatHBE
/- The reference's limbs: Part, Unit, Drop, Pi. -/
namespace Go.Proofs.YtnnmfdeeicpdlaaGreat
open Go.RowKit

structure PtI (a : List Int) (D : Int) (j : Nat) (out : List Int) (r : Int) : Prop where
  len : out.length = a.length
  dg : Dg out
  r0 : 0 ≤ r
  r1 : r < D
  v : valD (a.drop j) = D * valD (out.drop j) + r
theorem PtI.start (a : List Int) {D : Int} (h : 1 ≤ D) : PtI a D a.length (List.replicate a.length 0) 0 :=
  ⟨List.length_replicate, fun d hd => by rw [List.eq_of_mem_replicate hd]; exact ⟨Int.le_refl _, dB_pos⟩, Int.le_refl _, by omega, by
    rw [List.drop_of_length_le (Nat.le_refl _), List.drop_of_length_le (by rw [List.length_replicate]; exact Nat.le_refl _)]
    simp [valD]⟩
theorem drop_setN {l : List Int} {j : Nat} (v : Int) (h : j < l.length) : (l.set j v).drop j = v :: l.drop (j + 1) := by
  rw [List.drop_eq_getElem_cons (by rw [List.length_set]; exact h), List.getElem_set_self, List.drop_set_of_lt (by omega)]
theorem PtI.step {a : List Int} {D : Int} {j : Nat} {out : List Int} {r x : Int} (ha : Dg a) (h : PtI a D (j + 1) out r) (hj : j < a.length) (hx : x = r * dB + nth a j) :
    0 ≤ x ∧ x < D * dB ∧ 0 ≤ x / D ∧ x / D < dB ∧ 0 ≤ x % D ∧ PtI a D j (out.set j (x / D)) (x % D) := by
  obtain ⟨h1, h2, h3, h4, h5⟩ := h
  have n := ha.nth j
  have D0 : 0 < D := by omega
  have p0 : 0 ≤ r * dB := Int.mul_nonneg h3 (Int.le_of_lt dB_pos)
  have p1 : r * dB + dB ≤ D * dB := by
    have := Int.mul_le_mul_of_nonneg_right (show r + 1 ≤ D by omega) (Int.le_of_lt dB_pos)
    rw [Int.add_mul] at this
    omega
  have x0 : 0 ≤ x := by omega
  have x1 : x < D * dB := by omega
  have q0 : 0 ≤ x / D := Int.ediv_nonneg x0 (Int.le_of_lt D0)
  have q1 : x / D < dB := Int.ediv_lt_of_lt_mul D0 (by rw [Int.mul_comm]; exact x1)
  have m0 := Int.emod_nonneg x (show D ≠ 0 by omega)
  have m1 := Int.emod_lt_of_pos x D0
  refine ⟨x0, x1, q0, q1, m0, by rw [List.length_set]; exact h1, h2.set j ⟨q0, q1⟩, m0, m1, ?_⟩
  rw [drop_setN _ (by omega), back_step hj, h5]
  show nth a j + dB * (D * valD (out.drop (j + 1)) + r) = D * (x / D + dB * valD (out.drop (j + 1))) + x % D
  have e := Int.mul_ediv_add_emod x D
  generalize valD (out.drop (j + 1)) = V at *
  generalize x / D = q at *
  generalize x % D = m at *
  have e2 : D * (q + dB * V) = D * q + dB * (D * V) := by grind
  rw [e2, Int.mul_add, Int.mul_comm dB r]
  omega
theorem PtI.done {a : List Int} {D : Int} {out : List Int} {r : Int} (h : PtI a D 0 out r) : valD out = valD a / D := by
  have h5 := h.v
  rw [List.drop_zero, List.drop_zero] at h5
  have := h.r0
  have := h.r1
  rw [h5, Int.add_comm, Int.add_mul_ediv_left _ _ (by omega), Int.ediv_eq_zero_of_lt h.r0 h.r1, Int.zero_add]
set_option maxHeartbeats 4000000 in
set_option maxRecDepth 100000 in
theorem r6_Part (va : Value) (a : List Int) (D : Int) (w : World) (ha : Sl w va a) (ca : Dg a) (D0 : 1 ≤ D) (D1 : D ≤ 268435456) (la : a.length ≤ 100000) :
    Calls Tryz.prog 349 #[va, .int .i64 D] w (RwD w fun l => Can l ∧ valD l = valD a / D ∧ l.length ≤ a.length) := by
  obtain ⟨a1, c1, rfl, hc1, hw1, hx1⟩ := ha
  have HX1 := Lib.hid hx1
  have HCA := Lib.hid ca
  obtain ⟨m, hm⟩ : ∃ m, a.length = m := ⟨_, rfl⟩
  have HE := Lib.hid hm
  have HST := Lib.hid (PtI.start a D0)
  rw [hm] at HST
  have HT := Lib.hid (fun v l W base (h : Ow W base v l) (hl : l.length ≤ 1000000) => dg_Trim v l W base h hl)
  rw [hm] at la ⊢
  have hmk := make_int (m := m) (by omega)
  have HOM : Hid (Ow (lay w [.inl (.cells (madeCells #[.int .i64 0] m) 3 (0, 0))]) (lay w []).heap.size (.slice (some ⟨posn w [], 0, none⟩) m m) (List.replicate m 0)) := Lib.hid (ow_made (L := []) (by omega))
  have km : IntKind.i64.wrap ((m : Int) - 1) = (m : Int) - 1 := IntWalk.i64_in _ (by omega)
  have nD : D ≠ 0 := by omega
  clear hx1 hw1 ca hm
  have hg : w.heap.size ≤ posn w [] := Nat.le_refl _
  refine lay_start ?_
  go_enter Tryz.func349, Tryz.ntmps349
  go_wp2_with fail
  obtain ⟨d0, e0⟩ : ∃ x, lay w [.inl (.cells (madeCells #[.int .i64 0] m) 3 (0, 0))] = lay w [.inr x] := by
    obtain ⟨y, hy⟩ := lay_ex w [.inl (.cells (madeCells #[.int .i64 0] m) 3 (0, 0))]
    exact ⟨y, hy⟩
  rw [e0] at HOM ⊢
  clear e0 hmk km
  go_loopw [6, 7] (fun v6 v7 wr => ∃ (j : Nat) (t r : Int) (out : List Int) (dd : Ext), j ≤ m ∧ t = (j : Int) - 1 ∧ v7 = .int .i64 t ∧ v6 = .int .i64 r ∧ wr = lay w [.inr dd] ∧ Ow (lay w [.inr dd]) (lay w []).heap.size (.slice (some ⟨posn w [], 0, none⟩) m m) out ∧ PtI a D j out r) (fun _ v7 _ => (intOf v7 + 1).toNat)
  case atStart => exact ⟨m, _, 0, _, d0, Nat.le_refl _, rfl, rfl, rfl, rfl, HOM.out, HST.out⟩
  case round =>
    obtain ⟨j, t, r, out, dd, hj, ht, rfl, rfl, rfl, hO, hI⟩ := hrel
    have HO := Lib.hid (And.intro hO hI)
    have hr0 := hI.r0
    have hr1 := hI.r1
    have HL2 : Hid (out.length = m) := Lib.hid (by rw [hI.len]; exact HE.out)
    clear hO hI
    by_cases h0 : j = 0
    · subst h0
      obtain rfl : t = -1 := by omega
      clear ht hj
      have HD := Lib.hid HO.out.2.done
      have HTr := Lib.hid (trim_ok out.length out rfl HO.out.2.dg)
      have HLn := Lib.hid (trim_len out)
      go_wp2_with fail
      refine (HT.out _ _ _ _ HO.out.1 (by rw [HL2.out]; omega)).mono ?_
      rintro e w' ⟨v', d', rfl, rfl, hv'⟩
      rw [lay_bw] at hv' ⊢
      obtain ⟨d3, e3⟩ : ∃ x, lay w [.inr d', .inr dd] = lay w [.inr x] := ⟨_, bw_bw _ _ _⟩
      rw [e3] at hv' ⊢
      clear e3
      have HV2 := Lib.hid hv'
      clear hv'
      go_wp2_with fail
      go_ret
      exact ⟨trimD out, _, d3, ⟨HTr.out.1, by rw [HTr.out.2]; exact HD.out, by have := HLn.out; rw [HL2.out] at this; exact this⟩, rfl, rfl, HV2.out.le (lay_below (w := w) (A := [.inr dd]) (B := [])).size⟩
    · obtain ⟨i, rfl⟩ : ∃ i, j = i + 1 := ⟨j - 1, by omega⟩
      obtain rfl : t = (i : Int) := by omega
      have him : i < m := by omega
      have x1 : (i : Int) < (m : Int) := by omega
      have x0 : (0 : Int) ≤ (i : Int) := by omega
      have w3 : IntKind.i64.wrap ((i : Int) - 1) = (i : Int) - 1 := IntWalk.i64_in _ (by omega)
      obtain ⟨b1, o1, rfl, hb1, hcell1⟩ := HX1.out (by intro h; have := HE.out; rw [h] at this; simp at this; omega)
      have k1 := hcell1 i (by rw [HE.out]; exact him)
      have na := HCA.out.nth i
      obtain ⟨X, hX⟩ : ∃ X, r * dB + nth a i = X := ⟨_, rfl⟩
      obtain ⟨s1, s2, s3, s4, s5, s6⟩ := HO.out.2.step HCA.out (by rw [HE.out]; exact him) hX.symm
      rw [dB_eq] at na hX s2 s4
      have HS6 := Lib.hid s6
      obtain ⟨P, hP⟩ : ∃ P, r * 268435456 = P := ⟨_, rfl⟩
      rw [hP] at hX
      have kP : IntKind.i64.wrap P = P := IntWalk.i64_in _ (by omega)
      have kX : IntKind.i64.wrap X = X := IntWalk.i64_in _ (by omega)
      have e1 : X.tmod D = X % D := Int.tmod_eq_emod_of_nonneg s1
      have e2 : X.tdiv D = X / D := Int.tdiv_eq_ediv_of_nonneg s1
      have s7 := Int.emod_lt_of_pos X (show 0 < D by omega)
      obtain ⟨R, hR⟩ : ∃ R, X % D = R := ⟨_, rfl⟩
      obtain ⟨K, hK⟩ : ∃ K, X / D = K := ⟨_, rfl⟩
      rw [hR] at e1 HS6 s5 s7
      rw [hK] at e2 HS6 s3 s4
      have kR : IntKind.i64.wrap R = R := IntWalk.i64_in _ (by omega)
      have kK : IntKind.i64.wrap K = K := IntWalk.i64_in _ (by omega)
      have lw : (Lit.int .i64 K).wf = true := lit_b (by omega)
      have fz := HO.out.1.froz i
      have co := HO.out.1.cell (i := i) (by rw [HL2.out]; exact him)
      obtain ⟨d4, e4, hO4⟩ := ow_store1 i HO.out.1 hg lw
      have HO4 := Lib.hid hO4
      have HI1 := Lib.hid him
      clear hO4 hcell1 hR hK s6 h0 ht hj
      generalize nth a i = A at *
      go_wp2_with fail
      go_roundw
      case rel => exact ⟨i, _, R, out.set i K, d4, Nat.le_of_lt HI1.out, rfl, rfl, rfl, rfl, HO4.out, HS6.out⟩
      case measure => simp [intOf]
end Go.Proofs.YtnnmfdeeicpdlaaGreat
/- The reference's limbs: Unit, Drop, pi, Pi. -/
namespace Go.Proofs.YtnnmfdeeicpdlaaGreat
set_option maxHeartbeats 2000000
set_option maxRecDepth 100000
open Go.RowKit

theorem repl_set (k : Nat) : (List.replicate (k + 1) (0 : Int)).set k 1 = List.replicate k 0 ++ [1] := by
  rw [List.replicate_succ', List.set_append_right (h := by rw [List.length_replicate]; exact Nat.le_refl _)]
  simp
theorem unit_ok2 (k : Nat) : Can ((List.replicate (k + 1) (0 : Int)).set k 1) ∧ valD ((List.replicate (k + 1) (0 : Int)).set k 1) = dB ^ k ∧ ((List.replicate (k + 1) (0 : Int)).set k 1).length = k + 1 := by
  have hd : Dg (List.replicate k 0) := fun d hd => by rw [List.eq_of_mem_replicate hd]; exact ⟨Int.le_refl _, dB_pos⟩
  rw [repl_set]
  refine ⟨Can.snoc hd (by decide) (by decide), ?_, by simp⟩
  rw [valD_snoc, valD_zero, List.length_replicate]
  omega
theorem r6_Unit (k : Nat) (hk : k ≤ 100) (w : World) :
    Calls Tryz.prog 297 #[.int .i64 (k : Int)] w (RwD w fun l => Can l ∧ valD l = dB ^ k ∧ l.length = k + 1) := by
  have HU := Lib.hid (unit_ok2 k)
  have kk : IntKind.i64.wrap ((k : Int) + 1) = ((k + 1 : Nat) : Int) := by rw [IntWalk.i64_in _ (by omega)]; omega
  have hmk := make_int (m := k + 1) (by omega)
  have HOM : Hid (Ow (lay w [.inl (.cells (madeCells #[.int .i64 0] (k + 1)) 3 (0, 0))]) (lay w []).heap.size (.slice (some ⟨posn w [], 0, none⟩) ((k + 1 : Nat) : Nat) (k + 1)) (List.replicate (k + 1) 0)) := Lib.hid (ow_made (L := []) (by omega))
  obtain ⟨n, hn⟩ : ∃ n, k + 1 = n := ⟨_, rfl⟩
  rw [hn] at kk hmk HOM HU
  have hg : w.heap.size ≤ posn w [] := Nat.le_refl _
  have x0 : (0 : Int) ≤ (k : Int) := by omega
  have x1 : (k : Int) < (n : Int) := by omega
  refine lay_start ?_
  go_enter Tryz.func297, Tryz.ntmps297
  obtain ⟨d0, e0⟩ : ∃ x, lay w [.inl (.cells (madeCells #[.int .i64 0] n) 3 (0, 0))] = lay w [.inr x] := by
    obtain ⟨y, hy⟩ := lay_ex w [.inl (.cells (madeCells #[.int .i64 0] n) 3 (0, 0))]
    exact ⟨y, hy⟩
  have hmk2 : (Instr.makeSlice 112 (.int .i64 (n : Int)) (.int .i64 (n : Int))).run Tryz.prog (lay w []) = .ok (.slice (some ⟨posn w [], 0, none⟩) n n) (lay w [.inr d0]) := by
    rw [hmk, ← e0]; rfl
  rw [e0] at HOM
  have fz := HOM.out.froz k
  have co := HOM.out.cell (i := k) (by rw [List.length_replicate]; omega)
  obtain ⟨d4, e4, hO4⟩ := ow_store1 k (x := 1) HOM.out hg (by decide)
  have HO4 := Lib.hid hO4
  have HU2 := Lib.hid HU.out
  have HN := Lib.hid hn
  clear hO4 hmk e0 hn HU
  go_wp2_with fail
  go_ret
  exact ⟨_, _, d4, by have := HU2.out; rw [← HN.out] at this ⊢; exact this, rfl, rfl, HO4.out⟩
theorem drop_can {l : List Int} (h : Can l) (k : Nat) : Can (l.drop k) := by
  refine ⟨h.1.drop k, ?_⟩
  by_cases hk : k < l.length
  · rw [List.getLast?_drop, if_neg (by omega)]
    exact h.2
  · rw [List.drop_of_length_le (by omega)]
    simp
theorem drop_val {l : List Int} (h : Dg l) (k : Nat) : valD (l.drop k) = valD l / dB ^ k := by
  by_cases hk : k ≤ l.length
  · have e := valD_app (l.take k) (l.drop k)
    rw [List.take_append_drop, List.length_take, Nat.min_eq_left hk] at e
    have b := valD_bd (h.take k)
    rw [List.length_take, Nat.min_eq_left hk] at b
    have hp := dB_pow_pos k
    rw [e, Int.add_mul_ediv_left _ _ (by omega), Int.ediv_eq_zero_of_lt b.1 b.2, Int.zero_add]
  · rw [List.drop_of_length_le (by omega)]
    have b := valD_bd h
    have hp := dB_pow_le (a := l.length) (b := k) (by omega)
    rw [Int.ediv_eq_zero_of_lt b.1 (by omega)]
    rfl
theorem r6_Drop (v : Value) (a : List Int) (k : Nat) (w : World) (ha : Sl w v a) :
    Calls Tryz.prog 351 #[v, .int .i64 (k : Int)] w fun e w' => ∃ v' d, e = .returned v' ∧ w' = bw w d ∧ Sl (bw w d) v' (a.drop k) := by
  have HS := Lib.hid ha
  obtain ⟨a1, cap, rfl, hc, hw, hx⟩ := ha
  obtain ⟨m, hm⟩ : ∃ m, a.length = m := ⟨_, rfl⟩
  have HM := Lib.hid hm
  by_cases h : m ≤ k
  · have hd : a.drop k = [] := List.drop_of_length_le (by omega)
    rw [hd]
    rw [hm] at hc HS ⊢
    have x1 : (m : Int) ≤ (k : Int) := by omega
    clear hx hw hd hm HS
    refine lay_start ?_
    go_enter Tryz.func351, Tryz.ntmps351
    go_wp2_with fail
    go_ret
    exact ⟨_, noExt _, rfl, (bw_noExt _).symm, Sl.nil _⟩
  · obtain ⟨b, o, rfl, hb, hcell⟩ := hx (by intro e; rw [e] at hm; simp at hm; omega)
    rw [hm] at hc HS ⊢
    have HC2 : Hid (Sl w (.slice (some ⟨b, o + k, none⟩) (m - k) (cap - k)) (a.drop k)) := Lib.hid (by
      have := sl_cut (f := k) (k := m - k) (c := cap - k) HS.out (by rw [hm]; omega) (by omega)
      rwa [List.take_of_length_le (l := a.drop k) (by rw [List.length_drop, hm]; exact Nat.le_refl _)] at this)
    have x1 : ¬ (m : Int) ≤ (k : Int) := by omega
    have x2 : (k : Int) ≤ (cap : Int) := by omega
    have x3 : (k : Int) ≤ (m : Int) := by omega
    have x4 : (m : Int) ≤ (cap : Int) := by omega
    have x5 : k < cap := by omega
    have x6 : ¬ cap = k := by omega
    have x0 : (0 : Int) ≤ (k : Int) := by omega
    clear hcell hw HS hm
    refine lay_start ?_
    go_enter Tryz.func351, Tryz.ntmps351
    go_wp2_with fail
    go_ret
    exact ⟨_, rfl, noExt w, (bw_noExt w).symm, by rw [bw_noExt]; exact HC2.out⟩
def piLm : List Int := [38008488, 142975752, 221327768, 170787696, 120867392, 154673705, 166927616, 137296536, 247785160, 155527201, 241405185, 58179156]
theorem piLm_len : piLm.length = 12 := rfl
theorem ow_litsN {w : World} {L : List (Obj ⊕ Ext)} {cs : Array Value} (l : List Int) (hc : cs.toList = l.map (Value.int .i64)) (hl : l.length ≤ 1000) (hw : ∀ i, i < l.length → (Lit.int .i64 (nth l i)).wf = true) :
    Ow (lay w (.inl (.cells cs 3 (0, 0)) :: L)) (lay w L).heap.size (.slice (some ⟨posn w (shp L), 0, none⟩) l.length l.length) l := by
  rw [← lay_size w L]
  refine ⟨?_, hw⟩
  have := World.ownsRow_lit (base := (lay w L).heap.size) (e := 3) (size := 1) (lay w L) cs l.length (Nat.le_refl _) (by unfold maxLen; omega) (by rw [← Array.length_toList, hc]; simp)
  rw [hc] at this
  exact this
theorem r6_pi (w : World) : Calls Tryz.prog 358 #[] w (RwD w fun l => l = piLm) := by
  refine lay_start ?_
  go_enter Tryz.func358, Tryz.ntmps358
  go_wp2_with fail
  go_ret
  obtain ⟨y, hy⟩ := lay_ex w [.inl (.cells #[.int .i64 38008488, .int .i64 142975752, .int .i64 221327768, .int .i64 170787696, .int .i64 120867392, .int .i64 154673705, .int .i64 166927616, .int .i64 137296536, .int .i64 247785160, .int .i64 155527201, .int .i64 241405185, .int .i64 58179156] 3 (0, 0))]
  refine ⟨piLm, _, y, rfl, rfl, hy, ?_⟩
  rw [← hy]
  exact ow_litsN (L := []) piLm rfl (by decide) (fun i hi => by
    rw [piLm_len] at hi
    have : ∀ j : Fin 12, (Lit.int .i64 (nth piLm j.1)).wf = true := by decide
    exact this ⟨i, hi⟩)
def PiO (k j : Nat) : List Int := ((piLm.take k).drop j).reverse
theorem piO_start (k : Nat) (hk : k ≤ 12) : PiO k k = [] := by
  unfold PiO
  rw [List.drop_of_length_le (by rw [List.length_take, piLm_len]; omega)]
  rfl
theorem piO_step {k j : Nat} (hk : k ≤ 12) (hj : j < k) : PiO k (j + 1) ++ [nth piLm j] = PiO k j := by
  unfold PiO
  rw [List.drop_eq_getElem_cons (l := piLm.take k) (i := j) (by rw [List.length_take, piLm_len]; omega), List.reverse_cons, List.getElem_take, ← nth_in (l := piLm) (by rw [piLm_len]; omega)]
theorem piO_len {k j : Nat} : (PiO k j).length ≤ 12 := by
  unfold PiO
  rw [List.length_reverse, List.length_drop, List.length_take, piLm_len]
  omega
theorem r6_PiL (k : Nat) (hk : k ≤ 12) (w : World) : Calls Tryz.prog 350 #[.int .i64 (k : Int)] w (RwD w fun l => l = PiO k 0 ++ [3]) := by
  have km : IntKind.i64.wrap ((k : Int) - 1) = (k : Int) - 1 := IntWalk.i64_in _ (by omega)
  refine lay_start ?_
  go_enter Tryz.func350, Tryz.ntmps350
  go_wp2_with fail
  refine (r6_pi _).mono ?_
  rintro e w' ⟨l, v, d1, rfl, rfl, rfl, hP⟩
  obtain ⟨g, cap, rfl, hg1, hg2, hg3, hg4⟩ := hP.form1 (by rw [piLm_len]; decide)
  rw [piLm_len] at hP hg3 ⊢
  have HP := Lib.hid hP
  rw [lay_bw]
  rw [lay_bw] at HP
  clear hP
  go_wp2_with fail
  go_loopw [4, 5] (fun v4 v5 wr => ∃ (j : Nat) (t : Int) (dd : Ext), j ≤ k ∧ t = (j : Int) - 1 ∧ v5 = .int .i64 t ∧ wr = lay w [.inr dd, .inr d1] ∧ Ow (lay w [.inr dd, .inr d1]) (lay w [.inr d1]).heap.size v4 (PiO k j)) (fun _ v5 _ => (intOf v5 + 1).toNat)
  case atStart =>
    rw [lay_bw] at *
    exact ⟨k, _, noExt _, Nat.le_refl _, rfl, rfl, (bw_noExt _).symm, by rw [piO_start k hk]; exact Ow.nil _ _⟩
  case round =>
    obtain ⟨j, t, dd, hj, ht, rfl, rfl, hO⟩ := hrel
    have HO := Lib.hid hO
    clear hO
    by_cases h0 : j = 0
    · subst h0
      obtain rfl : t = -1 := by omega
      clear ht hj
      have hlen : (PiO k 0).length ≤ 1000000000 := Nat.le_trans piO_len (by decide)
      go_wp2_with (first | (at_builtin; refine push_int rfl _ _ rfl (lay w [.inr d1]) _ (3) 3 _ _ _ ?_ (ow_on (A := [_]) HO.out) ?_ rfl rfl hlen (by decide) ?_; exact lay_below (A := [_, _]); exact lay_get w _ 0 _ rfl; intro v' d' hv'))
      go_ret
      obtain ⟨y, hy⟩ := lay_ex w [.inr d', .inr d1]
      refine ⟨_, _, y, rfl, rfl, hy, ?_⟩
      rw [← hy]
      exact hv'.le (lay_below (w := w) (A := [.inr d1]) (B := [])).size
    · obtain ⟨i, rfl⟩ : ∃ i, j = i + 1 := ⟨j - 1, by omega⟩
      obtain rfl : t = (i : Int) := by omega
      have hik : i < k := by omega
      have w3 : IntKind.i64.wrap ((i : Int) - 1) = (i : Int) - 1 := IntWalk.i64_in _ (by omega)
      have x0 : (0 : Int) ≤ (i : Int) := by omega
      have x1 : (i : Int) < ((12 : Nat) : Int) := by omega
      have x2 : (i : Int) < 12 := by omega
      have co : (lay w [.inr dd, .inr d1]).cell? ⟨g, i, none⟩ = some (.int .i64 (nth piLm i)) := (ow_on (A := [.inr dd]) HP.out).cell (i := i) (by rw [piLm_len]; omega)
      have lw := HP.out.2 i (by rw [piLm_len]; omega)
      have hlen : (PiO k (i + 1)).length ≤ 1000000000 := Nat.le_trans piO_len (by decide)
      have HST := Lib.hid (piO_step hk hik)
      have HK := Lib.hid hik
      clear h0 hj ht
      generalize nth piLm i = X at *
      go_wp2_with (first | (at_builtin; refine push_int rfl _ _ rfl (lay w [.inr d1]) _ (X) 3 _ _ _ ?_ (ow_on (A := [_]) HO.out) ?_ rfl rfl hlen lw ?_; exact lay_below (A := [_, _]); exact lay_get w _ 0 _ rfl; intro v' d' hv'))
      rw [HST.out] at hv'
      have HV := Lib.hid hv'
      clear hv'
      go_wp2_with fail
      go_roundw
      case rel => exact ⟨i, _, d', Nat.le_of_lt HK.out, rfl, rfl, rfl, HV.out⟩
      case measure => simp [intOf]
def piK (k : Nat) : Nat := if k = 3 then pi84 else pi112
theorem piK_ok {k : Nat} (hk : k = 3 ∨ k = 4) : Can (PiO k 0 ++ [3]) ∧ valD (PiO k 0 ++ [3]) = (piK k : Int) ∧ (PiO k 0 ++ [3]).length = k + 1 := by
  have d3 : Dg (PiO 3 0) := by unfold Dg; decide
  have d4 : Dg (PiO 4 0) := by unfold Dg; decide
  rcases hk with rfl | rfl
  · exact ⟨Can.snoc d3 (by decide) (by decide), by decide +kernel, by decide⟩
  · exact ⟨Can.snoc d4 (by decide) (by decide), by decide +kernel, by decide⟩
theorem r6_Pi (k : Nat) (hk : k = 3 ∨ k = 4) (w : World) : Calls Tryz.prog 350 #[.int .i64 (k : Int)] w (RwD w fun l => Can l ∧ valD l = (piK k : Int) ∧ l.length = k + 1) :=
  (r6_PiL k (by omega) w).mono fun e w' ⟨l, v, d, hl, h1, h2, h3⟩ => ⟨l, v, d, by rw [hl]; exact piK_ok hk, h1, h2, h3⟩
end Go.Proofs.YtnnmfdeeicpdlaaGreat
/- The exact rotation's sines lie in the cells that the program finds, and not near to their borders. No program in sight. -/
namespace Go.Proofs.YtnnmfdeeicpdlaaGreat
open Go.RowKit

theorem thirdS_ab : (2 * evI lisS 1800000 - facW).natAbs * 1267650600228229401496703205376 ≤ 2 * facW := by decide +kernel
theorem sin_third : Nr (sinT 1800000) (1 / 2) eps := by
  have h2 : sinT 1800000 * (facW : Rat) = ((evI lisS 1800000 : Int) : Rat) := lisS_ok 1800000
  have hM := eps_of (M := (2 * evI lisS 1800000 - facW).natAbs) (W := 2 * facW) thirdS_ab
  have hW := facW_rat
  refine nr_of_int (W := 2 * (facW : Rat)) (x := 2 * evI lisS 1800000 - facW) (by grind) ?_ (Nat.le_refl _) (by push_cast at hM; exact hM)
  rw [show (sinT 1800000 - 1 / 2) * (2 * (facW : Rat)) = 2 * (sinT 1800000 * (facW : Rat)) - (facW : Rat) by grind, h2]
  generalize evI lisS 1800000 = u
  push_cast
  rfl
def e60 : Rat := 1 / 73786976294838206464
theorem near60 {r : Nat} (h : r ≤ 2700000) : 64 * (r : Rat) / k96 ≤ 1 / 442721857769029238784 := by
  have hr : (r : Rat) ≤ 2700000 := by exact_mod_cast h
  unfold k96
  grind
theorem q_near : -e60 ≤ zC 5400000 ∧ zC 5400000 ≤ e60 ∧ 1 - e60 ≤ zS 5400000 ∧ zS 5400000 ≤ 1 := by
  obtain ⟨h1, h2⟩ := z_near (r := 2700000) (by decide)
  have h3 := near60 (r := 2700000) (by decide)
  have h4 := (h1.trans sin_mid).trans h2.symm
  have he : eps ≤ 1 / 442721857769029238784 := by unfold eps; grind
  obtain ⟨a1, a2⟩ := z_add 2700000 2700000
  rw [show (5400000 : Int) = ((2700000 + 2700000 : Nat) : Int) from rfl, zS_nat, zC_nat, a1, a2]
  have u := z_unit 2700000
  obtain ⟨b1, b2⟩ := sq_one u
  obtain ⟨b3, b4⟩ := sq_one (x := zc 2700000) (y := zs 2700000) (by grind)
  generalize zs 2700000 = s at *
  generalize zc 2700000 = c at *
  have d : Nr s c (1 / 147573952589676412928) := h4.le (by grind)
  obtain ⟨d1, d2⟩ := d
  obtain ⟨p1, p2⟩ := rabs (m := 2) (f := 1 / 147573952589676412928) (x := c + s) (y := c - s) (by grind) (by grind) (by grind) (by grind)
  obtain ⟨q1, q2⟩ := rabs (m := 1 / 147573952589676412928) (f := 1 / 147573952589676412928) (x := c - s) (y := c - s) (by grind) (by grind) (by grind) (by grind)
  have sq0 : 0 ≤ (c - s) * (c - s) := by
    rcases (Rat.le_total : (0 : Rat) ≤ (c - s) ∨ (c - s) ≤ 0) with g | g
    · exact rmul0 g g
    · have := rmul0 (show 0 ≤ -(c - s) by grind) (show 0 ≤ -(c - s) by grind); grind
  unfold e60
  refine ⟨?_, ?_, ?_, ?_⟩ <;> grind
theorem q_natz : -e60 ≤ zc 5400000 ∧ zc 5400000 ≤ e60 ∧ 1 - e60 ≤ zs 5400000 ∧ zs 5400000 ≤ 1 := by
  have h := q_near
  rw [show (5400000 : Int) = ((5400000 : Nat) : Int) from rfl, zS_nat, zC_nat] at h
  exact h
structure CellE (n : Int) (t g : Rat) : Prop where
  lo : (bLo n : Rat) ≤ 1073741824 * zS n + t
  hi : 1073741824 * zS n ≤ (bHi n : Rat) + t
  up : 1073741824 * zS n + g ≤ (bLo n : Rat) + 1
  dn : (bHi n : Rat) + g ≤ 1073741824 * zS n + 1
theorem CellE.same {n m : Int} {t g d t' g' : Rat} (h : CellE n t g) (hn : Nr (zS m) (zS n) d) (h1 : bLo m = bLo n) (h2 : bHi m = bHi n) (ht : t + 1073741824 * d ≤ t') (hg : g' + 1073741824 * d ≤ g) : CellE m t' g' := by
  obtain ⟨a1, a2, a3, a4⟩ := h
  obtain ⟨n1, n2⟩ := hn
  have e1 : (bLo m : Rat) = (bLo n : Rat) := by rw [h1]
  have e2 : (bHi m : Rat) = (bHi n : Rat) := by rw [h2]
  constructor <;> simp only [e1, e2] <;> grind
theorem CellE.opp {n m : Int} {t g d t' g' : Rat} (h : CellE n t g) (hn : Nr (zS m) (-(zS n)) d) (h1 : bLo m = -(bHi n)) (h2 : bHi m = -(bLo n)) (ht : t + 1073741824 * d ≤ t') (hg : g' + 1073741824 * d ≤ g) : CellE m t' g' := by
  obtain ⟨a1, a2, a3, a4⟩ := h
  obtain ⟨n1, n2⟩ := hn
  have e1 : (bLo m : Rat) = -(bHi n : Rat) := by rw [h1]; push_cast; rfl
  have e2 : (bHi m : Rat) = -(bLo n : Rat) := by rw [h2]; push_cast; rfl
  constructor <;> simp only [e1, e2] <;> grind
theorem near_zs {r : Nat} (h : r ≤ 2700000) : Nr (zs r) (sinT r) (1 / 442721857769029238784) ∧ Nr (zc r) (cosT r) (1 / 442721857769029238784) :=
  ⟨(z_near h).1.le (near60 h), (z_near h).2.le (near60 h)⟩
theorem cell_bt {f : Nat} {v z : Rat} (hb : Bt f v) (hn : Nr z v (1 / 442721857769029238784)) : (f : Rat) + 1 / 8388608 ≤ 1073741824 * z ∧ 1073741824 * z + 1 / 8388608 ≤ (f : Rat) + 1 := by
  obtain ⟨b1, b2⟩ := hb
  obtain ⟨n1, n2⟩ := hn
  constructor <;> grind
theorem cell_q {m : Nat} (h : m ≤ 5400000) : ((sinQ m : Nat) : Rat) ≤ 1073741824 * zs m + 1 / 17179869184 ∧ 1073741824 * zs m ≤ ((hiQ m : Int) : Rat) + 1 / 17179869184 ∧ 1073741824 * zs m + 1 / 9000000 ≤ ((sinQ m : Nat) : Rat) + 1 ∧ ((hiQ m : Int) : Rat) + 1 / 9000000 ≤ 1073741824 * zs m + 1 := by
  have exact : ∀ {k : Nat}, sinQ m = k → hiQ m = (k : Int) → Nr (1073741824 * zs m) (k : Rat) (1 / 17179869184) → ((sinQ m : Nat) : Rat) ≤ 1073741824 * zs m + 1 / 17179869184 ∧ 1073741824 * zs m ≤ ((hiQ m : Int) : Rat) + 1 / 17179869184 ∧ 1073741824 * zs m + 1 / 9000000 ≤ ((sinQ m : Nat) : Rat) + 1 ∧ ((hiQ m : Int) : Rat) + 1 / 9000000 ≤ 1073741824 * zs m + 1 := fun {k} h1 h2 h3 => by
    rw [h1, h2]
    obtain ⟨n1, n2⟩ := h3
    push_cast
    refine ⟨?_, ?_, ?_, ?_⟩ <;> grind
  have inner : ∀ {f : Nat}, sinQ m = f → hiQ m = (f : Int) + 1 → (f : Rat) + 1 / 8500000 ≤ 1073741824 * zs m ∧ 1073741824 * zs m + 1 / 8500000 ≤ (f : Rat) + 1 → ((sinQ m : Nat) : Rat) ≤ 1073741824 * zs m + 1 / 17179869184 ∧ 1073741824 * zs m ≤ ((hiQ m : Int) : Rat) + 1 / 17179869184 ∧ 1073741824 * zs m + 1 / 9000000 ≤ ((sinQ m : Nat) : Rat) + 1 ∧ ((hiQ m : Int) : Rat) + 1 / 9000000 ≤ 1073741824 * zs m + 1 := fun {f} h1 h2 h3 => by
    rw [h1, h2]
    obtain ⟨n1, n2⟩ := h3
    push_cast
    refine ⟨?_, ?_, ?_, ?_⟩ <;> grind
  have hu : hiQ m = (sinQ m : Int) + oneQ m := rfl
  have ho := oneQ_at m
  by_cases c0 : m = 0
  · subst c0
    refine exact (k := 0) sinQ_0 (by rw [hu, ho, sinQ_0]; rfl) ?_
    rw [zs_0]
    constructor <;> grind
  by_cases c1 : m = 1800000
  · subst c1
    refine exact (k := 536870912) sinQ_h (by rw [hu, ho, sinQ_h, if_pos (.inr (.inl rfl)), Int.add_zero]) ?_
    have h1 := (near_zs (r := 1800000) (by decide)).1.trans sin_third
    have he : eps ≤ 1 / 442721857769029238784 := by unfold eps; grind
    obtain ⟨n1, n2⟩ := h1
    generalize zs 1800000 = z at *
    push_cast
    constructor <;> grind
  by_cases c2 : m = 5400000
  · subst c2
    refine exact (k := 1073741824) sinQ_q (by rw [hu, ho, sinQ_q, if_pos (.inr (.inr rfl)), Int.add_zero]) ?_
    obtain ⟨h1, h2, h3, h4⟩ := q_natz
    unfold e60 at h3
    generalize zs 5400000 = z at *
    push_cast
    constructor <;> grind
  rw [if_neg (by omega)] at ho
  rw [ho] at hu
  by_cases c3 : m ≤ 2700000
  · have hs := sinQ_s c0 c1 c3
    rw [hs] at hu
    have := cell_bt (octS_bt (r := m) (by omega) c3 c1) (near_zs c3).1
    exact inner hs hu (by obtain ⟨n1, n2⟩ := this; constructor <;> grind)
  · have hs := sinQ_c (n := m) (by omega) (by omega)
    rw [hs] at hu
    obtain ⟨k, hk⟩ : ∃ k, 5400000 - m = k := ⟨_, rfl⟩
    rw [hk] at hs hu
    have hb := cell_bt (octC_bt (r := k) (by omega) (by omega)) (near_zs (r := k) (by omega)).2
    refine inner hs hu ?_
    obtain ⟨z1, -⟩ := z_sub (a := 5400000) (b := k) (by omega)
    rw [show 5400000 - k = m by omega] at z1
    obtain ⟨q1, q2, q3, q4⟩ := q_natz
    generalize zs 5400000 = zq at *
    generalize zc 5400000 = cq at *
    have u := z_unit k
    obtain ⟨b1, b2⟩ := sq_one u
    obtain ⟨b3, b4⟩ := sq_one (x := zc k) (y := zs k) (by grind)
    obtain ⟨p1, p2⟩ := rabs (x := zq - 1) (y := zc k) (m := e60) (f := 1) (by grind) (by unfold e60 at *; grind) b3 b4
    obtain ⟨p3, p4⟩ := rabs (x := cq) (y := zs k) (m := e60) (f := 1) (by grind) (by grind) b1 b2
    rw [z1]
    unfold e60 at *
    obtain ⟨n1, n2⟩ := hb
    constructor <;> grind
theorem cell_1 {n : Int} (h0 : 0 ≤ n) (h1 : n ≤ 5400000) : CellE n (1 / 17179869184) (1 / 9000000) := by
  obtain ⟨m, rfl⟩ := Int.eq_ofNat_of_zero_le h0
  obtain ⟨e1, e2⟩ := b_one h0 h1
  have h := cell_q (m := m) (by omega)
  rw [Int.toNat_natCast] at e1 e2
  obtain ⟨a1, a2, a3, a4⟩ := h
  constructor
  · rw [e1, zS_nat]; push_cast; exact a1
  · rw [e2, zS_nat]; exact a2
  · rw [e1, zS_nat]; push_cast; exact a3
  · rw [e2, zS_nat]; exact a4
theorem cell_2 {n : Int} (h0 : -5400000 ≤ n) (h1 : n ≤ 5400000) : CellE n (1 / 17179869184) (1 / 9000000) := by
  by_cases h : 0 ≤ n
  · exact cell_1 h h1
  · obtain ⟨b1, b2⟩ := b_odd (n := -n) (by omega) (by omega)
    rw [Int.neg_neg] at b1 b2
    refine (cell_1 (n := -n) (by omega) (by omega)).opp (d := 0) ?_ b1 b2 (by grind) (by grind)
    rw [zS_neg]
    constructor <;> grind
theorem half_near : -(2 * e60) ≤ zS 10800000 ∧ zS 10800000 ≤ 2 * e60 ∧ -1 ≤ zC 10800000 ∧ zC 10800000 ≤ -1 + 3 * e60 := by
  obtain ⟨q1, q2, q3, q4⟩ := q_near
  obtain ⟨a1, a2⟩ := Z_add 5400000 5400000
  rw [show (5400000 : Int) + 5400000 = 10800000 from rfl] at a1 a2
  have hz := (Z_in 10800000).2.1
  rw [a2] at hz
  rw [a1, a2]
  clear a1 a2
  generalize zS 5400000 = s at *
  generalize zC 5400000 = c at *
  have he : (0 : Rat) < e60 ∧ e60 ≤ 1 / 1000 := by unfold e60; constructor <;> grind
  generalize e60 = e at *
  obtain ⟨p1, p2⟩ := rabs (x := s) (y := c) (m := 1) (f := e) (by grind) q4 q1 q2
  obtain ⟨p3, p4⟩ := rabs (x := c) (y := c) (m := e) (f := e) q1 q2 q1 q2
  have p5 := rmul (a := 1 - e) (b := s) (c := 1 - e) (d := s) (by grind) q3 (by grind) q3
  have p6 := rmul (a := e) (b := 1 / 1000) (c := e) (d := e) (by grind) (by grind) (by grind) (by grind)
  refine ⟨?_, ?_, hz, ?_⟩ <;> grind
theorem turn_near : -(5 * e60) ≤ zS 21600000 ∧ zS 21600000 ≤ 5 * e60 ∧ 1 - 7 * e60 ≤ zC 21600000 ∧ zC 21600000 ≤ 1 := by
  obtain ⟨q1, q2, q3, q4⟩ := half_near
  obtain ⟨a1, a2⟩ := Z_add 10800000 10800000
  rw [show (10800000 : Int) + 10800000 = 21600000 from rfl] at a1 a2
  have hz := (Z_in 21600000).2.2
  rw [a2] at hz
  rw [a1, a2]
  clear a1 a2
  generalize zS 10800000 = s at *
  generalize zC 10800000 = c at *
  have he : (0 : Rat) < e60 ∧ e60 ≤ 1 / 1000 := by unfold e60; constructor <;> grind
  generalize e60 = e at *
  obtain ⟨p1, p2⟩ := rabs (x := c) (y := s) (m := 1) (f := 2 * e) (by grind) (by grind) q1 q2
  obtain ⟨p3, p4⟩ := rabs (x := s) (y := s) (m := 2 * e) (f := 2 * e) q1 q2 q1 q2
  have p5 := rmul (a := 1 - 3 * e) (b := -c) (c := 1 - 3 * e) (d := -c) (by grind) (by grind) (by grind) (by grind)
  have p6 := rmul (a := e) (b := 1 / 1000) (c := e) (d := e) (by grind) (by grind) (by grind) (by grind)
  refine ⟨?_, ?_, ?_, hz⟩ <;> grind
def t31 : Rat := 1 / 2147483648
def g24 : Rat := 1 / 16777216
theorem zS_refl (m : Int) : Nr (zS (10800000 - m)) (zS m) (6 * e60) := by
  obtain ⟨q1, q2, q3, q4⟩ := half_near
  obtain ⟨a1, -⟩ := Z_sub 10800000 m
  obtain ⟨⟨b1, b2⟩, b3, b4⟩ := Z_in m
  rw [a1]
  clear a1
  generalize zS 10800000 = s at *
  generalize zC 10800000 = c at *
  generalize zS m = x at *
  generalize zC m = y at *
  have he : (0 : Rat) < e60 ∧ e60 ≤ 1 / 1000 := by unfold e60; constructor <;> grind
  generalize e60 = e at *
  obtain ⟨p1, p2⟩ := rabs (x := s) (y := y) (m := 2 * e) (f := 1) q1 q2 b3 b4
  obtain ⟨p3, p4⟩ := rabs (x := c + 1) (y := x) (m := 3 * e) (f := 1) (by grind) (by grind) b1 b2
  constructor <;> grind
theorem zS_turn (m : Int) : Nr (zS (m + 21600000)) (zS m) (12 * e60) := by
  obtain ⟨q1, q2, q3, q4⟩ := turn_near
  obtain ⟨a1, -⟩ := Z_add m 21600000
  obtain ⟨⟨b1, b2⟩, b3, b4⟩ := Z_in m
  rw [a1]
  clear a1
  generalize zS 21600000 = s at *
  generalize zC 21600000 = c at *
  generalize zS m = x at *
  generalize zC m = y at *
  have he : (0 : Rat) < e60 ∧ e60 ≤ 1 / 1000 := by unfold e60; constructor <;> grind
  generalize e60 = e at *
  obtain ⟨p1, p2⟩ := rabs (x := s) (y := y) (m := 5 * e) (f := 1) q1 q2 b3 b4
  obtain ⟨p3, p4⟩ := rabs (x := c - 1) (y := x) (m := 7 * e) (f := 1) (by grind) (by grind) b1 b2
  constructor <;> grind
theorem cell_3 {n : Int} (h0 : -5400000 ≤ n) (h1 : n ≤ 16200000) : CellE n (1 / 6000000000) (1 / 10000000) := by
  have he : 1073741824 * (6 * e60) ≤ 1 / 10000000000 := by unfold e60; grind
  by_cases h : n ≤ 5400000
  · refine (cell_2 h0 h).same (d := 0) ?_ rfl rfl (by grind) (by grind)
    constructor <;> grind
  · have hn := zS_refl (10800000 - n)
    rw [show 10800000 - (10800000 - n) = n by omega] at hn
    refine (cell_2 (n := 10800000 - n) (by omega) (by omega)).same hn ?_ ?_ (by grind) (by grind)
    · by_cases g : n ≤ 10800000
      · rw [(b_two (n := n) (by omega) g).1, (b_one (n := 10800000 - n) (by omega) (by omega)).1]
      · rw [(b_three (n := n) (by omega) h1).1, (b_four (n := 10800000 - n) (by omega) (by omega)).1, show (-(10800000 - n)) = n - 10800000 by omega]
    · by_cases g : n ≤ 10800000
      · rw [(b_two (n := n) (by omega) g).2, (b_one (n := 10800000 - n) (by omega) (by omega)).2]
      · rw [(b_three (n := n) (by omega) h1).2, (b_four (n := 10800000 - n) (by omega) (by omega)).2, show (-(10800000 - n)) = n - 10800000 by omega]
theorem cell_all {n : Int} (h0 : -5400000 ≤ n) (h1 : n ≤ 27000000) : CellE n t31 g24 := by
  have he : 1073741824 * (12 * e60) ≤ 1 / 5000000000 := by unfold e60; grind
  by_cases h : n ≤ 16200000
  · refine (cell_3 h0 h).same (d := 0) ?_ rfl rfl (by unfold t31; grind) (by unfold g24; grind)
    constructor <;> grind
  · have hn := zS_turn (n - 21600000)
    rw [show n - 21600000 + 21600000 = n by omega] at hn
    have hb := b_shift (n - 21600000) 1
    rw [show n - 21600000 + 21600000 * 1 = n by omega] at hb
    exact (cell_3 (n := n - 21600000) (by omega) (by omega)).same hn hb.1 hb.2 (by unfold t31; grind) (by unfold g24; grind)
end Go.Proofs.YtnnmfdeeicpdlaaGreat

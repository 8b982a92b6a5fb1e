/- Contracts and plain laws, several texts in one: Qn5 -/
import Derived.Test.YtkhhdpndcidmgaaGreatProg
import Derived.WalkKit
import Derived.WalkSpells
import Derived.WalkLawsBesides
import Derived.Lib.Hide
import Derived.BigQuiet
import Derived.Test.YtkhhdpndcidmgaaGreatTAD
import Derived.Test.YtkhhdpndcidmgaaGreatTAE
import Derived.Test.YtkhhdpndcidmgaaGreatTAF
import Derived.Test.YtkhhdpndcidmgaaGreatTAI
import Derived.Test.YtkhhdpndcidmgaaGreatTAO
/- arctrig: pi, series. -/
namespace Go.Proofs.YtkhhdpndcidmgaaGreat
set_option maxRecDepth 100000
open Go.RowKit

def piAL : List Nat := [3, 2611923443488327891, 1376283091369227076, 11820040416388919760]
theorem piAL_wd : Wd 4 piAL := ⟨rfl, fun i => by
  unfold piAL nt
  rcases i with _ | _ | _ | _ | i <;> simp [List.getD]⟩
theorem piAL_val : val4 piAL = piA := by decide +kernel
theorem ar_pi (w : World) : Calls Tryz.prog 176 #[] w fun e w' => e = .returned (nuV piAL) ∧ ∃ d, w' = bw w d := by
  refine lay_start ?_
  go_enter Tryz.func176, Tryz.ntmps176
  go_wp2_with fail
  exact bodyPost_ret (v := nuV piAL) (by simp [results, Tryz.results176, go_sem, nuV, piAL, nt]) rfl ⟨rfl, lay_ex _ _⟩
theorem sub_small {a b r c B : Nat} (h : r + b = a + c * B) (hc : c ≤ 1) (hr : r < B) (hle : b ≤ a) : r = a - b := by
  rcases (show c = 0 ∨ c = 1 by omega) with g | g
  · subst g; omega
  · subst g; omega
theorem add_small {a b r c B : Nat} (h : r + c * B = a + b) (hc : c ≤ 1) (hab : a + b < B) : r = a + b := by
  rcases (show c = 0 ∨ c = 1 by omega) with g | g
  · subst g; omega
  · subst g; omega
theorem m192_B4 : m192 < 18446744073709551616 ^ 4 := by decide +kernel
theorem limbs_zero {t : List Nat} (h : Wd 4 t) (h0 : val4 t = 0) : nt t 0 = 0 ∧ nt t 1 = 0 ∧ nt t 2 = 0 ∧ nt t 3 = 0 := by
  obtain ⟨hl, hw⟩ := h
  match t, hl with
  | [a, b, c, d], _ =>
    unfold val4 at h0
    simp only [valB, List.length_cons, List.length_nil, Nat.zero_add, Nat.reduceAdd, Nat.pow_zero, Nat.mul_one, Nat.pow_one, Nat.add_zero] at h0
    show a = 0 ∧ b = 0 ∧ c = 0 ∧ d = 0
    omega
theorem limbs_some {t : List Nat} (h : Wd 4 t) (h0 : val4 t ≠ 0) : (nt t 0 ≠ 0) ∨ (nt t 0 = 0 ∧ nt t 1 ≠ 0) ∨ (nt t 0 = 0 ∧ nt t 1 = 0 ∧ nt t 2 ≠ 0) ∨ (nt t 0 = 0 ∧ nt t 1 = 0 ∧ nt t 2 = 0 ∧ nt t 3 ≠ 0) := by
  obtain ⟨hl, hw⟩ := h
  match t, hl with
  | [a, b, c, d], _ =>
    unfold val4 at h0
    simp only [valB, List.length_cons, List.length_nil, Nat.zero_add, Nat.reduceAdd, Nat.pow_zero, Nat.mul_one, Nat.pow_one, Nat.add_zero] at h0
    show a ≠ 0 ∨ (a = 0 ∧ b ≠ 0) ∨ (a = 0 ∧ b = 0 ∧ c ≠ 0) ∨ (a = 0 ∧ b = 0 ∧ c = 0 ∧ d ≠ 0)
    omega
structure SerI (sq F d0 : Nat) (fin : Int) (s t d k : Nat) (mi : Bool) : Prop where
  dk : d = d0 + 2 * k
  fuel : t * 2 ^ k ≤ m192
  fin1 : mi = true → fin = (s : Int) - ((t : Int) - altQ m192 sq 200 t d)
  fin2 : mi = false → fin = (s : Int) + ((t : Int) - altQ m192 sq 200 t d)
  bd1 : mi = true → t ≤ s ∧ s ≤ F
  bd2 : mi = false → s + t ≤ F
theorem m192_200 : m192 < 2 ^ 200 := by decide +kernel
theorem SerI.start {sq F d0 : Nat} (hF : F ≤ m192) : SerI sq F d0 (altQ m192 sq 200 F d0) F F d0 0 true := ⟨by omega, by omega, fun _ => by omega, fun h => (by cases h), fun _ => ⟨Nat.le_refl _, Nat.le_refl _⟩, fun h => (by cases h)⟩
theorem SerI.step {sq F d0 : Nat} {fin : Int} {s t d k : Nat} {mi : Bool} (h : SerI sq F d0 fin s t d k mi) (hs : sq ≤ m192) (hd : 1 ≤ d0) (_hF : F ≤ m192) (ht : 0 < t) :
    k ≤ 192 ∧ nexQ m192 sq t d * 2 ≤ t ∧ (mi = true → nexQ m192 sq t d ≤ s ∧ SerI sq F d0 fin (s - nexQ m192 sq t d) (nexQ m192 sq t d) (d + 2) (k + 1) false) ∧ (mi = false → s + nexQ m192 sq t d ≤ F ∧ SerI sq F d0 fin (s + nexQ m192 sq t d) (nexQ m192 sq t d) (d + 2) (k + 1) true) := by
  have hd1 : 1 ≤ d := by have := h.dk; omega
  have hn := nexQ_le (t := t) m192_pos hs hd1
  have hk : k ≤ 192 := by
    rcases Nat.lt_or_ge 192 k with g | g
    · have h1 : 2 ^ 193 ≤ 2 ^ k := Nat.pow_le_pow_right (by decide) g
      have h2 : 1 * 2 ^ k ≤ t * 2 ^ k := Nat.mul_le_mul_right _ ht
      have h3 := h.fuel
      have h4 : m192 < 2 ^ 193 := by decide +kernel
      omega
    · exact g
  have ht2 : t < 2 ^ 200 := by
    have h1 : t * 1 ≤ t * 2 ^ k := Nat.mul_le_mul_left t (Nat.pow_pos (by decide))
    have h3 := h.fuel
    have h4 := m192_200
    omega
  have ha := altQ_next m192_pos hs hd1 ht2
  have hf : nexQ m192 sq t d * 2 ^ (k + 1) ≤ m192 := by
    rw [Nat.pow_succ, Nat.mul_comm (2 ^ k), ← Nat.mul_assoc]
    exact Nat.le_trans (Nat.mul_le_mul_right _ hn) h.fuel
  generalize nexQ m192 sq t d = t' at *
  refine ⟨hk, hn, fun hm => ?_, fun hm => ?_⟩
  · have f1 := h.fin1 hm
    have b1 := h.bd1 hm
    refine ⟨by omega, by have := h.dk; omega, hf, fun h => (by cases h), fun _ => by omega, fun h => (by cases h), fun _ => by omega⟩
  · have f1 := h.fin2 hm
    have b1 := h.bd2 hm
    refine ⟨by omega, by have := h.dk; omega, hf, fun _ => by omega, fun h => (by cases h), fun _ => by omega, fun h => (by cases h)⟩
theorem SerI.done {sq F d0 : Nat} {fin : Int} {s d k : Nat} {mi : Bool} (h : SerI sq F d0 fin s 0 d k mi) : fin = (s : Int) := by
  cases mi
  · have := h.fin2 rfl
    rw [altQ_zero] at this
    omega
  · have := h.fin1 rfl
    rw [altQ_zero] at this
    omega
set_option maxHeartbeats 4000000 in
theorem ar_series (f q : List Nat) (n0 : Nat) (hf : Wd 4 f) (hq : Wd 4 q) (hf2 : val4 f ≤ m192) (hq2 : val4 q ≤ m192) (hn : n0 ≤ 1) (w : World) :
    Calls Tryz.prog 179 #[nuV f, nuV q, .int .u64 (n0 : Int)] w fun e w' => ∃ r d, e = .returned (nuV r) ∧ w' = bw w d ∧ Wd 4 r ∧ altQ m192 (val4 q) 200 (val4 f) (n0 + 1) = (val4 r : Int) := by
  have HSt := Lib.hid (SerI.start (sq := val4 q) (d0 := n0 + 1) hf2)
  generalize altQ m192 (val4 q) 200 (val4 f) (n0 + 1) = FIN at *
  refine lay_start ?_
  unfold nuV
  go_enter Tryz.func179, Tryz.ntmps179
  go_wp2_with fail
  refine region_mixW [0, 0, 2, 1, 1] (by kernel_rfl) (by kernel_rfl) (by kernel_rfl) ?_
  repeat (refine wpM_quiet (fun K hK => ?_); go_simp; first | (refine hK _ ?_; clear hK K) | (apply Exists.intro; refine ⟨fun _ => ?_, hK _ ?_⟩; (first | fail); clear hK K))
  refine wpM_two (fun J hJ d => ?_) (fun J hJ d => ?_)
  all_goals (go_simp; refine hJ _ _ (by first | exact lay_in w [_] _ | exact lay_in w [_, _] _ | exact lay_in w [_, _, _] _ | exact lay_in w [_, _, _, _] _ | exact lay_in w [_, _, _, _, _] _ | exact lay_in w [_, _, _, _, _, _] _) (fun K hK d => ?_); go_simp; refine hK _ _ (by first | exact lay_in w [_] _ | exact lay_in w [_, _] _ | exact lay_in w [_, _, _] _ | exact lay_in w [_, _, _, _] _ | exact lay_in w [_, _, _, _, _] _ | exact lay_in w [_, _, _, _, _, _] _) ?_; clear hK K hJ J)
  all_goals (repeat (first | (refine wpM_quiet (fun K hK => ?_); go_simp; first | (refine hK _ ?_; clear hK K) | (apply Exists.intro; refine ⟨fun _ => ?_, hK _ ?_⟩; (first | fail); clear hK K)) | (refine wpM_special (fun K hK d => ?_); go_simp; refine hK _ _ (by first | exact lay_in w [_] _ | exact lay_in w [_, _] _ | exact lay_in w [_, _, _] _ | exact lay_in w [_, _, _, _] _ | exact lay_in w [_, _, _, _, _] _ | exact lay_in w [_, _, _, _, _, _] _) ?_; clear hK K)))
  all_goals (refine wpM_nil ?_; intro d; rw [lay_bw])
  · rename_i e1 e2 e3 e4
    go_wp2_with fail
    obtain ⟨ee, hee⟩ := lay_fold w [.inr d, .inr e4, .inr e3] [.inl (.cells #[.int .u64 (nt f 0 : Int), .int .u64 (nt f 1 : Int), .int .u64 (nt f 2 : Int), .int .u64 (nt f 3 : Int)] 166 (0, 0)), .inr e2, .inl (.cells #[.int .u64 (nt f 0 : Int), .int .u64 (nt f 1 : Int), .int .u64 (nt f 2 : Int), .int .u64 (nt f 3 : Int)] 166 (0, 0)), .inr e1, .inl (.cells #[.int .u64 0, .int .u64 0, .int .u64 0, .int .u64 0] 166 (0, 0)), .inl (.cells #[.int .u64 (nt q 0 : Int), .int .u64 (nt q 1 : Int), .int .u64 (nt q 2 : Int), .int .u64 (nt q 3 : Int)] 166 (0, 0)), .inl (.cells #[.int .u64 (nt f 0 : Int), .int .u64 (nt f 1 : Int), .int .u64 (nt f 2 : Int), .int .u64 (nt f 3 : Int)] 166 (0, 0))]
    change lay w [.inr d, .inr e4, .inr e3, .inl (.cells #[.int .u64 (nt f 0 : Int), .int .u64 (nt f 1 : Int), .int .u64 (nt f 2 : Int), .int .u64 (nt f 3 : Int)] 166 (0, 0)), .inr e2, .inl (.cells #[.int .u64 (nt f 0 : Int), .int .u64 (nt f 1 : Int), .int .u64 (nt f 2 : Int), .int .u64 (nt f 3 : Int)] 166 (0, 0)), .inr e1, .inl (.cells #[.int .u64 0, .int .u64 0, .int .u64 0, .int .u64 0] 166 (0, 0)), .inl (.cells #[.int .u64 (nt q 0 : Int), .int .u64 (nt q 1 : Int), .int .u64 (nt q 2 : Int), .int .u64 (nt q 3 : Int)] 166 (0, 0)), .inl (.cells #[.int .u64 (nt f 0 : Int), .int .u64 (nt f 1 : Int), .int .u64 (nt f 2 : Int), .int .u64 (nt f 3 : Int)] 166 (0, 0))] = _ at hee
    rw [hee]
    clear hee
    go_loopw [2, 9] (fun v2 v9 wr => ∃ (s t : List Nat) (nn k : Nat) (mi : Bool) (e : Ext), v2 = .int .u64 (nn : Int) ∧ v9 = .bool mi ∧ wr = lay w [.inr e, .inl (.cells #[.int .u64 (nt t 0 : Int), .int .u64 (nt t 1 : Int), .int .u64 (nt t 2 : Int), .int .u64 (nt t 3 : Int)] 166 (0, 0)), .inr e2, .inl (.cells #[.int .u64 (nt s 0 : Int), .int .u64 (nt s 1 : Int), .int .u64 (nt s 2 : Int), .int .u64 (nt s 3 : Int)] 166 (0, 0)), .inr e1, .inl (.cells #[.int .u64 0, .int .u64 0, .int .u64 0, .int .u64 0] 166 (0, 0)), .inl (.cells #[.int .u64 (nt q 0 : Int), .int .u64 (nt q 1 : Int), .int .u64 (nt q 2 : Int), .int .u64 (nt q 3 : Int)] 166 (0, 0)), .inl (.cells #[.int .u64 (nt f 0 : Int), .int .u64 (nt f 1 : Int), .int .u64 (nt f 2 : Int), .int .u64 (nt f 3 : Int)] 166 (0, 0))] ∧ Wd 4 s ∧ Wd 4 t ∧ SerI (val4 q) (val4 f) (n0 + 1) FIN (val4 s) (val4 t) (nn + 1) k mi) (fun v2 _ _ => 400 - (intOf v2).toNat)
    case atStart => exact ⟨f, f, n0, 0, true, ee, rfl, rfl, rfl, hf, hf, HSt.out⟩
    case round =>
      obtain ⟨s, t, nn, k, mi, e, rfl, rfl, rfl, hs, ht, hS⟩ := hrel
      have HS := Lib.hid hS
      have HW := Lib.hid (And.intro hs ht)
      clear hS hs ht
      by_cases h0 : val4 t = 0
      · obtain ⟨z0, z1, z2, z3⟩ := limbs_zero HW.out.2 h0
        have hneq : ∀ W, (binOp .neq 166 (.agg #[.int .u64 (nt t 0 : Int), .int .u64 (nt t 1 : Int), .int .u64 (nt t 2 : Int), .int .u64 (nt t 3 : Int)]) (.agg #[.int .u64 0, .int .u64 0, .int .u64 0, .int .u64 0])).run Tryz.prog W = .ok (.bool false) W := fun W => by
          rw [neq_num, z0, z1, z2, z3]; rfl
        have hfin := HS.out
        rw [h0] at hfin
        have HF := Lib.hid (And.intro HW.out.1 hfin.done)
        clear hfin z0 z1 z2 z3 h0
        go_wp2_with fail
        obtain ⟨dz, ez⟩ := lay_all w [.inr e, .inl (.cells #[.int .u64 (nt t 0 : Int), .int .u64 (nt t 1 : Int), .int .u64 (nt t 2 : Int), .int .u64 (nt t 3 : Int)] 166 (0, 0)), .inr e2, .inl (.cells #[.int .u64 (nt s 0 : Int), .int .u64 (nt s 1 : Int), .int .u64 (nt s 2 : Int), .int .u64 (nt s 3 : Int)] 166 (0, 0)), .inr e1, .inl (.cells #[.int .u64 (nt s 0 : Int), .int .u64 (nt s 1 : Int), .int .u64 (nt s 2 : Int), .int .u64 (nt s 3 : Int)] 166 (0, 0)), .inl (.cells #[.int .u64 (nt q 0 : Int), .int .u64 (nt q 1 : Int), .int .u64 (nt q 2 : Int), .int .u64 (nt q 3 : Int)] 166 (0, 0)), .inl (.cells #[.int .u64 (nt f 0 : Int), .int .u64 (nt f 1 : Int), .int .u64 (nt f 2 : Int), .int .u64 (nt f 3 : Int)] 166 (0, 0))]
        exact bodyPost_ret (v := .agg #[.int .u64 (nt s 0 : Int), .int .u64 (nt s 1 : Int), .int .u64 (nt s 2 : Int), .int .u64 (nt s 3 : Int)]) (by simp [results, Tryz.results179, go_sem]) rfl ⟨s, dz, rfl, ez, HF.out.1, HF.out.2⟩
      · obtain ⟨hk, hn2, hT, hF⟩ := HS.out.step hq2 (by omega) hf2 (by omega)
        have hdk := HS.out.dk
        have hneq : ∀ W, (binOp .neq 166 (.agg #[.int .u64 (nt t 0 : Int), .int .u64 (nt t 1 : Int), .int .u64 (nt t 2 : Int), .int .u64 (nt t 3 : Int)]) (.agg #[.int .u64 0, .int .u64 0, .int .u64 0, .int .u64 0])).run Tryz.prog W = .ok (.bool true) W := fun W => by
          rw [neq_num]
          congr 2
          have := limbs_some HW.out.2 h0
          simp
          omega
        have ht192 : val4 t ≤ m192 := by
          have h1 : val4 t * 1 ≤ val4 t * 2 ^ k := Nat.mul_le_mul_left _ (Nat.pow_pos (by decide))
          have h3 := HS.out.fuel
          omega
        have hM := qn_mul t q HW.out.2 hq (by
          have h1 := Nat.mul_le_mul ht192 hq2
          have h2 : m192 * m192 < 18446744073709551616 ^ 7 := by decide +kernel
          omega)
        obtain ⟨D, hD⟩ : ∃ D, (nn + 1) * (nn + 1 + 1) = D := ⟨_, rfl⟩
        have hnn : nn ≤ 400 := by omega
        have hDb : 0 < D ∧ D < 1000000 := by
          have h1 := Nat.mul_le_mul (show nn + 1 ≤ 401 by omega) (show nn + 1 + 1 ≤ 402 by omega)
          have h2 : 0 < (nn + 1) * (nn + 1 + 1) := Nat.mul_pos (by omega) (by omega)
          omega
        have kn1 : IntKind.u64.wrap ((nn : Int) + 1) = (nn : Int) + 1 := IntWalk.u64_in _ (by omega)
        have kn2 : IntKind.u64.wrap ((nn : Int) + 2) = (nn : Int) + 2 := IntWalk.u64_in _ (by omega)
        have eD : ((nn : Int) + 1) * ((nn : Int) + 2) = (D : Int) := by rw [← hD]; push_cast; rfl
        have kD : IntKind.u64.wrap (((nn : Int) + 1) * ((nn : Int) + 2)) = (D : Int) := by rw [eD]; exact IntWalk.u64_in _ (by omega)
        unfold nuV at hM
        unfold nexQ at hT hF hn2
        rw [hD, m192_pow] at hT hF hn2
        have HT := Lib.hid (And.intro hT (And.intro hF hn2))
        clear hT hF hn2 eD hD h0 ht192
        go_wp2_with fail
        refine (hM _).mono ?_
        rintro xx w' ⟨r1, d1, rfl, rfl, hw1, hv1⟩
        rw [lay_bw]
        have hO := qn_over r1 D hw1 hDb.1 (by omega)
        unfold nuV at hO
        go_wp2_with fail
        refine (hO _).mono ?_
        rintro xx w' ⟨r2, d2, rfl, rfl, hw2, hv2⟩
        rw [hv1] at hv2
        have HT := HT.out
        rw [← hv2] at HT
        have HT := Lib.hid HT
        have HX := Lib.hid (And.intro hw2 (And.intro (val4_lt HW.out.1) (val4_lt hw2)))
        clear hw1 hv1 hw2 hv2 hM hO
        rw [lay_bw]
        cases mi
        · obtain ⟨hle, hnext⟩ := HT.out.2.1 rfl
          have HN := Lib.hid (And.intro hle hnext)
          clear hle hnext
          have hA := qn_add s r2 HW.out.1 HX.out.1
          unfold nuV at hA
          go_wp2_with fail
          refine (hA _).mono ?_
          rintro xx w' ⟨r3, d3, rfl, rfl, hw3, c, hc, hv3⟩
          have hv4 := add_small hv3 hc (Nat.lt_of_le_of_lt (Nat.le_trans HN.out.1 hf2) m192_B4)
          have hser := HN.out.2
          rw [← hv4] at hser
          have HZ := Lib.hid (And.intro hw3 hser)
          clear hw3 hc hv3 hv4 hser hA
          rw [lay_bw]
          go_wp2_with fail
          obtain ⟨df, hdf⟩ := lay_fold w [.inr d3, .inr d2, .inr d1, .inr e] [.inl (.cells #[.int .u64 (nt r2 0 : Int), .int .u64 (nt r2 1 : Int), .int .u64 (nt r2 2 : Int), .int .u64 (nt r2 3 : Int)] 166 (0, 0)), .inr e2, .inl (.cells #[.int .u64 (nt r3 0 : Int), .int .u64 (nt r3 1 : Int), .int .u64 (nt r3 2 : Int), .int .u64 (nt r3 3 : Int)] 166 (0, 0)), .inr e1, .inl (.cells #[.int .u64 0, .int .u64 0, .int .u64 0, .int .u64 0] 166 (0, 0)), .inl (.cells #[.int .u64 (nt q 0 : Int), .int .u64 (nt q 1 : Int), .int .u64 (nt q 2 : Int), .int .u64 (nt q 3 : Int)] 166 (0, 0)), .inl (.cells #[.int .u64 (nt f 0 : Int), .int .u64 (nt f 1 : Int), .int .u64 (nt f 2 : Int), .int .u64 (nt f 3 : Int)] 166 (0, 0))]
          exact ⟨⟨r3, r2, nn + 2, k + 1, true, df, by first | rfl | exact congrArg (Value.int .u64) (by omega), rfl, hdf, HZ.out.1, HX.out.1, HZ.out.2⟩, by simp only [intOf]; omega⟩
        · obtain ⟨hle, hnext⟩ := HT.out.1 rfl
          have HN := Lib.hid (And.intro hle hnext)
          clear hle hnext
          have hA := qn_sub s r2 HW.out.1 HX.out.1
          unfold nuV at hA
          go_wp2_with fail
          refine (hA _).mono ?_
          rintro xx w' ⟨r3, d3, rfl, rfl, hw3, c, hc, hv3⟩
          have hv4 := sub_small hv3 hc (val4_lt hw3) HN.out.1
          have hser := HN.out.2
          rw [← hv4] at hser
          have HZ := Lib.hid (And.intro hw3 hser)
          clear hw3 hc hv3 hv4 hser hA
          rw [lay_bw]
          go_wp2_with fail
          obtain ⟨df, hdf⟩ := lay_fold w [.inr d3, .inr d2, .inr d1, .inr e] [.inl (.cells #[.int .u64 (nt r2 0 : Int), .int .u64 (nt r2 1 : Int), .int .u64 (nt r2 2 : Int), .int .u64 (nt r2 3 : Int)] 166 (0, 0)), .inr e2, .inl (.cells #[.int .u64 (nt r3 0 : Int), .int .u64 (nt r3 1 : Int), .int .u64 (nt r3 2 : Int), .int .u64 (nt r3 3 : Int)] 166 (0, 0)), .inr e1, .inl (.cells #[.int .u64 0, .int .u64 0, .int .u64 0, .int .u64 0] 166 (0, 0)), .inl (.cells #[.int .u64 (nt q 0 : Int), .int .u64 (nt q 1 : Int), .int .u64 (nt q 2 : Int), .int .u64 (nt q 3 : Int)] 166 (0, 0)), .inl (.cells #[.int .u64 (nt f 0 : Int), .int .u64 (nt f 1 : Int), .int .u64 (nt f 2 : Int), .int .u64 (nt f 3 : Int)] 166 (0, 0))]
          exact ⟨⟨r3, r2, nn + 2, k + 1, false, df, by first | rfl | exact congrArg (Value.int .u64) (by omega), rfl, hdf, HZ.out.1, HX.out.1, HZ.out.2⟩, by simp only [intOf]; omega⟩
  · rename_i e1 e2 e3 e4
    go_wp2_with fail
    obtain ⟨ee, hee⟩ := lay_fold w [.inr d, .inr e4, .inr e3] [.inl (.cells #[.int .u64 (nt f 0 : Int), .int .u64 (nt f 1 : Int), .int .u64 (nt f 2 : Int), .int .u64 (nt f 3 : Int)] 166 (0, 0)), .inr e2, .inl (.cells #[.int .u64 (nt f 0 : Int), .int .u64 (nt f 1 : Int), .int .u64 (nt f 2 : Int), .int .u64 (nt f 3 : Int)] 166 (0, 0)), .inr e1, .inl (.cells #[.int .u64 0, .int .u64 0, .int .u64 0, .int .u64 0] 166 (0, 0)), .inl (.cells #[.int .u64 (nt q 0 : Int), .int .u64 (nt q 1 : Int), .int .u64 (nt q 2 : Int), .int .u64 (nt q 3 : Int)] 166 (0, 0)), .inl (.cells #[.int .u64 (nt f 0 : Int), .int .u64 (nt f 1 : Int), .int .u64 (nt f 2 : Int), .int .u64 (nt f 3 : Int)] 166 (0, 0))]
    change lay w [.inr d, .inr e4, .inr e3, .inl (.cells #[.int .u64 (nt f 0 : Int), .int .u64 (nt f 1 : Int), .int .u64 (nt f 2 : Int), .int .u64 (nt f 3 : Int)] 166 (0, 0)), .inr e2, .inl (.cells #[.int .u64 (nt f 0 : Int), .int .u64 (nt f 1 : Int), .int .u64 (nt f 2 : Int), .int .u64 (nt f 3 : Int)] 166 (0, 0)), .inr e1, .inl (.cells #[.int .u64 0, .int .u64 0, .int .u64 0, .int .u64 0] 166 (0, 0)), .inl (.cells #[.int .u64 (nt q 0 : Int), .int .u64 (nt q 1 : Int), .int .u64 (nt q 2 : Int), .int .u64 (nt q 3 : Int)] 166 (0, 0)), .inl (.cells #[.int .u64 (nt f 0 : Int), .int .u64 (nt f 1 : Int), .int .u64 (nt f 2 : Int), .int .u64 (nt f 3 : Int)] 166 (0, 0))] = _ at hee
    rw [hee]
    clear hee
    go_loopw [2, 9] (fun v2 v9 wr => ∃ (s t : List Nat) (nn k : Nat) (mi : Bool) (e : Ext), v2 = .int .u64 (nn : Int) ∧ v9 = .bool mi ∧ wr = lay w [.inr e, .inl (.cells #[.int .u64 (nt s 0 : Int), .int .u64 (nt s 1 : Int), .int .u64 (nt s 2 : Int), .int .u64 (nt s 3 : Int)] 166 (0, 0)), .inr e2, .inl (.cells #[.int .u64 (nt t 0 : Int), .int .u64 (nt t 1 : Int), .int .u64 (nt t 2 : Int), .int .u64 (nt t 3 : Int)] 166 (0, 0)), .inr e1, .inl (.cells #[.int .u64 0, .int .u64 0, .int .u64 0, .int .u64 0] 166 (0, 0)), .inl (.cells #[.int .u64 (nt q 0 : Int), .int .u64 (nt q 1 : Int), .int .u64 (nt q 2 : Int), .int .u64 (nt q 3 : Int)] 166 (0, 0)), .inl (.cells #[.int .u64 (nt f 0 : Int), .int .u64 (nt f 1 : Int), .int .u64 (nt f 2 : Int), .int .u64 (nt f 3 : Int)] 166 (0, 0))] ∧ Wd 4 s ∧ Wd 4 t ∧ SerI (val4 q) (val4 f) (n0 + 1) FIN (val4 s) (val4 t) (nn + 1) k mi) (fun v2 _ _ => 400 - (intOf v2).toNat)
    case atStart => exact ⟨f, f, n0, 0, true, ee, rfl, rfl, rfl, hf, hf, HSt.out⟩
    case round =>
      obtain ⟨s, t, nn, k, mi, e, rfl, rfl, rfl, hs, ht, hS⟩ := hrel
      have HS := Lib.hid hS
      have HW := Lib.hid (And.intro hs ht)
      clear hS hs ht
      by_cases h0 : val4 t = 0
      · obtain ⟨z0, z1, z2, z3⟩ := limbs_zero HW.out.2 h0
        have hneq : ∀ W, (binOp .neq 166 (.agg #[.int .u64 (nt t 0 : Int), .int .u64 (nt t 1 : Int), .int .u64 (nt t 2 : Int), .int .u64 (nt t 3 : Int)]) (.agg #[.int .u64 0, .int .u64 0, .int .u64 0, .int .u64 0])).run Tryz.prog W = .ok (.bool false) W := fun W => by
          rw [neq_num, z0, z1, z2, z3]; rfl
        have hfin := HS.out
        rw [h0] at hfin
        have HF := Lib.hid (And.intro HW.out.1 hfin.done)
        clear hfin z0 z1 z2 z3 h0
        go_wp2_with fail
        obtain ⟨dz, ez⟩ := lay_all w [.inr e, .inl (.cells #[.int .u64 (nt s 0 : Int), .int .u64 (nt s 1 : Int), .int .u64 (nt s 2 : Int), .int .u64 (nt s 3 : Int)] 166 (0, 0)), .inr e2, .inl (.cells #[.int .u64 (nt t 0 : Int), .int .u64 (nt t 1 : Int), .int .u64 (nt t 2 : Int), .int .u64 (nt t 3 : Int)] 166 (0, 0)), .inr e1, .inl (.cells #[.int .u64 (nt s 0 : Int), .int .u64 (nt s 1 : Int), .int .u64 (nt s 2 : Int), .int .u64 (nt s 3 : Int)] 166 (0, 0)), .inl (.cells #[.int .u64 (nt q 0 : Int), .int .u64 (nt q 1 : Int), .int .u64 (nt q 2 : Int), .int .u64 (nt q 3 : Int)] 166 (0, 0)), .inl (.cells #[.int .u64 (nt f 0 : Int), .int .u64 (nt f 1 : Int), .int .u64 (nt f 2 : Int), .int .u64 (nt f 3 : Int)] 166 (0, 0))]
        exact bodyPost_ret (v := .agg #[.int .u64 (nt s 0 : Int), .int .u64 (nt s 1 : Int), .int .u64 (nt s 2 : Int), .int .u64 (nt s 3 : Int)]) (by simp [results, Tryz.results179, go_sem]) rfl ⟨s, dz, rfl, ez, HF.out.1, HF.out.2⟩
      · obtain ⟨hk, hn2, hT, hF⟩ := HS.out.step hq2 (by omega) hf2 (by omega)
        have hdk := HS.out.dk
        have hneq : ∀ W, (binOp .neq 166 (.agg #[.int .u64 (nt t 0 : Int), .int .u64 (nt t 1 : Int), .int .u64 (nt t 2 : Int), .int .u64 (nt t 3 : Int)]) (.agg #[.int .u64 0, .int .u64 0, .int .u64 0, .int .u64 0])).run Tryz.prog W = .ok (.bool true) W := fun W => by
          rw [neq_num]
          congr 2
          have := limbs_some HW.out.2 h0
          simp
          omega
        have ht192 : val4 t ≤ m192 := by
          have h1 : val4 t * 1 ≤ val4 t * 2 ^ k := Nat.mul_le_mul_left _ (Nat.pow_pos (by decide))
          have h3 := HS.out.fuel
          omega
        have hM := qn_mul t q HW.out.2 hq (by
          have h1 := Nat.mul_le_mul ht192 hq2
          have h2 : m192 * m192 < 18446744073709551616 ^ 7 := by decide +kernel
          omega)
        obtain ⟨D, hD⟩ : ∃ D, (nn + 1) * (nn + 1 + 1) = D := ⟨_, rfl⟩
        have hnn : nn ≤ 400 := by omega
        have hDb : 0 < D ∧ D < 1000000 := by
          have h1 := Nat.mul_le_mul (show nn + 1 ≤ 401 by omega) (show nn + 1 + 1 ≤ 402 by omega)
          have h2 : 0 < (nn + 1) * (nn + 1 + 1) := Nat.mul_pos (by omega) (by omega)
          omega
        have kn1 : IntKind.u64.wrap ((nn : Int) + 1) = (nn : Int) + 1 := IntWalk.u64_in _ (by omega)
        have kn2 : IntKind.u64.wrap ((nn : Int) + 2) = (nn : Int) + 2 := IntWalk.u64_in _ (by omega)
        have eD : ((nn : Int) + 1) * ((nn : Int) + 2) = (D : Int) := by rw [← hD]; push_cast; rfl
        have kD : IntKind.u64.wrap (((nn : Int) + 1) * ((nn : Int) + 2)) = (D : Int) := by rw [eD]; exact IntWalk.u64_in _ (by omega)
        unfold nuV at hM
        unfold nexQ at hT hF hn2
        rw [hD, m192_pow] at hT hF hn2
        have HT := Lib.hid (And.intro hT (And.intro hF hn2))
        clear hT hF hn2 eD hD h0 ht192
        go_wp2_with fail
        refine (hM _).mono ?_
        rintro xx w' ⟨r1, d1, rfl, rfl, hw1, hv1⟩
        rw [lay_bw]
        have hO := qn_over r1 D hw1 hDb.1 (by omega)
        unfold nuV at hO
        go_wp2_with fail
        refine (hO _).mono ?_
        rintro xx w' ⟨r2, d2, rfl, rfl, hw2, hv2⟩
        rw [hv1] at hv2
        have HT := HT.out
        rw [← hv2] at HT
        have HT := Lib.hid HT
        have HX := Lib.hid (And.intro hw2 (And.intro (val4_lt HW.out.1) (val4_lt hw2)))
        clear hw1 hv1 hw2 hv2 hM hO
        rw [lay_bw]
        cases mi
        · obtain ⟨hle, hnext⟩ := HT.out.2.1 rfl
          have HN := Lib.hid (And.intro hle hnext)
          clear hle hnext
          have hA := qn_add s r2 HW.out.1 HX.out.1
          unfold nuV at hA
          go_wp2_with fail
          refine (hA _).mono ?_
          rintro xx w' ⟨r3, d3, rfl, rfl, hw3, c, hc, hv3⟩
          have hv4 := add_small hv3 hc (Nat.lt_of_le_of_lt (Nat.le_trans HN.out.1 hf2) m192_B4)
          have hser := HN.out.2
          rw [← hv4] at hser
          have HZ := Lib.hid (And.intro hw3 hser)
          clear hw3 hc hv3 hv4 hser hA
          rw [lay_bw]
          go_wp2_with fail
          obtain ⟨df, hdf⟩ := lay_fold w [.inr d3, .inr d2, .inr d1, .inr e] [.inl (.cells #[.int .u64 (nt r3 0 : Int), .int .u64 (nt r3 1 : Int), .int .u64 (nt r3 2 : Int), .int .u64 (nt r3 3 : Int)] 166 (0, 0)), .inr e2, .inl (.cells #[.int .u64 (nt r2 0 : Int), .int .u64 (nt r2 1 : Int), .int .u64 (nt r2 2 : Int), .int .u64 (nt r2 3 : Int)] 166 (0, 0)), .inr e1, .inl (.cells #[.int .u64 0, .int .u64 0, .int .u64 0, .int .u64 0] 166 (0, 0)), .inl (.cells #[.int .u64 (nt q 0 : Int), .int .u64 (nt q 1 : Int), .int .u64 (nt q 2 : Int), .int .u64 (nt q 3 : Int)] 166 (0, 0)), .inl (.cells #[.int .u64 (nt f 0 : Int), .int .u64 (nt f 1 : Int), .int .u64 (nt f 2 : Int), .int .u64 (nt f 3 : Int)] 166 (0, 0))]
          exact ⟨⟨r3, r2, nn + 2, k + 1, true, df, by first | rfl | exact congrArg (Value.int .u64) (by omega), rfl, hdf, HZ.out.1, HX.out.1, HZ.out.2⟩, by simp only [intOf]; omega⟩
        · obtain ⟨hle, hnext⟩ := HT.out.1 rfl
          have HN := Lib.hid (And.intro hle hnext)
          clear hle hnext
          have hA := qn_sub s r2 HW.out.1 HX.out.1
          unfold nuV at hA
          go_wp2_with fail
          refine (hA _).mono ?_
          rintro xx w' ⟨r3, d3, rfl, rfl, hw3, c, hc, hv3⟩
          have hv4 := sub_small hv3 hc (val4_lt hw3) HN.out.1
          have hser := HN.out.2
          rw [← hv4] at hser
          have HZ := Lib.hid (And.intro hw3 hser)
          clear hw3 hc hv3 hv4 hser hA
          rw [lay_bw]
          go_wp2_with fail
          obtain ⟨df, hdf⟩ := lay_fold w [.inr d3, .inr d2, .inr d1, .inr e] [.inl (.cells #[.int .u64 (nt r3 0 : Int), .int .u64 (nt r3 1 : Int), .int .u64 (nt r3 2 : Int), .int .u64 (nt r3 3 : Int)] 166 (0, 0)), .inr e2, .inl (.cells #[.int .u64 (nt r2 0 : Int), .int .u64 (nt r2 1 : Int), .int .u64 (nt r2 2 : Int), .int .u64 (nt r2 3 : Int)] 166 (0, 0)), .inr e1, .inl (.cells #[.int .u64 0, .int .u64 0, .int .u64 0, .int .u64 0] 166 (0, 0)), .inl (.cells #[.int .u64 (nt q 0 : Int), .int .u64 (nt q 1 : Int), .int .u64 (nt q 2 : Int), .int .u64 (nt q 3 : Int)] 166 (0, 0)), .inl (.cells #[.int .u64 (nt f 0 : Int), .int .u64 (nt f 1 : Int), .int .u64 (nt f 2 : Int), .int .u64 (nt f 3 : Int)] 166 (0, 0))]
          exact ⟨⟨r3, r2, nn + 2, k + 1, false, df, by first | rfl | exact congrArg (Value.int .u64) (by omega), rfl, hdf, HZ.out.1, HX.out.1, HZ.out.2⟩, by simp only [intOf]; omega⟩
end Go.Proofs.YtkhhdpndcidmgaaGreat

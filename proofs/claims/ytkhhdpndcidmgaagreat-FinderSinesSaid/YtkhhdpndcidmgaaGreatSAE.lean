/- Contracts and plain laws, several texts in one: Region; Plain; TgR; Div; TgQ; Lb2 -/
import GoSem.Core.Next
import Derived.Test.YtkhhdpndcidmgaaGreatSAA
import Derived.Test.YtkhhdpndcidmgaaGreatSAB
import Derived.Test.YtkhhdpndcidmgaaGreatSAC
/- A region that draws its order, with one 'alloc' that waits for nothing, quiet operations beside it, and a tail behind all of them. No program in sight. -/
namespace Go.Proofs.YtkhhdpndcidmgaaGreat
open Go.RowKit

def extUpon (P : Program) (w : World) (v : Value) : Result Next → Prop
  | .ok (.value u) w' => w' = w ∧ u = v
  | .ok .skip w' => w' = w ∧ v = undef
  | .ok (.enter f args) w' => w' = w ∧ Calls P f args w (fun e w'' => e = .returned v ∧ ∃ d, w'' = bw w d)
  | _ => False
def extOp (P : Program) (o : Oper) (a : Act) (W : World) (next : Act → Prop) : Prop := ∃ v, (∀ d : Ext, extUpon P (bw W d) v ((execOp a.eval o).run P (bw W d))) ∧ next (a.put o.dst v)
attribute [go_sem] extOp extUpon

section
variable {P : Program} {ops : Array Oper} {md : Region.Mode} {W : World}
end
/-! ### Two allocs -/
section
variable {P : Program} {ops : Array Oper} {md : Region.Mode} {W : World}
end
section
variable {P : Program} {ops : Array Oper} {md : Region.Mode} {W : World}
end
end Go.Proofs.YtkhhdpndcidmgaaGreat
/- Plain facts on integers: quotients rounded down and up, as Go reckons them. No program in sight. -/
namespace Go.Proofs.YtkhhdpndcidmgaaGreat
theorem floor_neg {a b : Int} (hb : 1 ≤ b) (h : a.tmod b < 0) : a.tdiv b - 1 = a / b := by
  have h1 := Int.tmod_add_mul_tdiv a b
  have h2 : -b < a.tmod b := by have := Int.lt_tmod_of_pos a (by omega : 0 < b); omega
  symm
  rw [Int.ediv_eq_iff_of_pos (by omega), Int.sub_mul, Int.mul_comm (a.tdiv b) b]
  omega
theorem floor_pos {a b : Int} (hb : 1 ≤ b) (h : 0 ≤ a.tmod b) : a.tdiv b = a / b := by
  have h1 := Int.tmod_add_mul_tdiv a b
  have h2 : a.tmod b < b := Int.tmod_lt_of_pos a (by omega)
  symm
  rw [Int.ediv_eq_iff_of_pos (by omega), Int.mul_comm (a.tdiv b) b]
  omega
theorem ediv_bd {a b : Int} (hb : 1 ≤ b) (L : Int) (h0 : 0 ≤ L) (h1 : -L ≤ a) (h2 : a ≤ L) : -L ≤ a / b ∧ a / b ≤ L := by
  constructor
  · rw [Int.le_ediv_iff_mul_le (by omega)]
    have : L * 1 ≤ L * b := Int.mul_le_mul_of_nonneg_left hb h0
    rw [Int.neg_mul]; omega
  · rcases Int.lt_or_le a 0 with h | h
    · have := Int.ediv_neg_of_neg_of_pos h (show 0 < b by omega); omega
    · have := Int.ediv_le_self b h; omega
theorem tmod_wrap (n : Int) (c : Int) (hc : 1 ≤ c) : (n.tmod c < 0 → n.tmod c + c = n % c) ∧ (0 ≤ n.tmod c → n.tmod c = n % c) := by
  have h1 := Int.tmod_add_mul_tdiv n c
  have h2 := Int.emod_add_mul_ediv n c
  constructor
  · intro h
    have := floor_neg hc h
    rw [← this, Int.mul_sub] at h2; omega
  · intro h
    have := floor_pos hc h
    rw [← this] at h2; omega
theorem tmod_bd (n c : Int) (hc : 1 ≤ c) : -c < n.tmod c ∧ n.tmod c < c := by
  have := Int.lt_tmod_of_pos n (show 0 < c by omega)
  have := Int.tmod_lt_of_pos n (show 0 < c by omega)
  omega
end Go.Proofs.YtkhhdpndcidmgaaGreat
/- The rotation keeps near to the sine and the cosine. No program in sight. -/
namespace Go.Proofs.YtkhhdpndcidmgaaGreat

theorem nfl {a K : Nat} (hK : 0 < K) : Nr (((a / K : Nat) : Rat)) ((a : Rat) / (K : Rat)) 1 := by
  have h1 := Nat.div_add_mod a K
  have h2 := Nat.mod_lt a hK
  have hK2 : (0 : Rat) < (K : Rat) := by exact_mod_cast hK
  have e1 : (a : Rat) = (K : Rat) * ((a / K : Nat) : Rat) + ((a % K : Nat) : Rat) := by exact_mod_cast h1.symm
  have e2 : ((a % K : Nat) : Rat) ≤ (K : Rat) := by exact_mod_cast Nat.le_of_lt h2
  have e3 : (0 : Rat) ≤ ((a % K : Nat) : Rat) := by exact_mod_cast Nat.zero_le _
  have e4 : (a : Rat) / (K : Rat) = ((a / K : Nat) : Rat) + ((a % K : Nat) : Rat) / (K : Rat) := by rw [e1]; grind
  have e5 : (0 : Rat) ≤ ((a % K : Nat) : Rat) / (K : Rat) := by rw [Rat.div_def]; exact rmul0 e3 (Rat.le_of_lt (Rat.inv_pos.2 hK2))
  have e6 : ((a % K : Nat) : Rat) / (K : Rat) ≤ 1 := by
    refine Rat.le_of_mul_le_mul_right (c := (K : Rat)) ?_ hK2
    rw [Rat.div_mul_cancel (by grind)]
    grind
  rw [e4]
  constructor <;> grind
theorem xi_in {n : Nat} (h : n ≤ 2700001) : 0 ≤ xi n ∧ xi n ≤ 4 / 5 := by
  have h1 : (piN : Rat) * 3437000 ≤ (piD : Rat) := by exact_mod_cast (show piN * 3437000 ≤ piD by decide +kernel)
  have hd : (0 : Rat) < (piD : Rat) := by exact_mod_cast (show 0 < piD by decide +kernel)
  have h2 : (0 : Rat) ≤ (piN : Rat) := by exact_mod_cast Nat.zero_le _
  have q0 : (0 : Rat) ≤ (piN : Rat) / (piD : Rat) := by rw [Rat.div_def]; exact rmul0 h2 (Rat.le_of_lt (Rat.inv_pos.2 hd))
  have q1 : (piN : Rat) / (piD : Rat) ≤ 1 / 3437000 := by
    refine Rat.le_of_mul_le_mul_right (c := (piD : Rat)) ?_ hd
    rw [Rat.div_mul_cancel (by grind)]
    grind
  have hn : (n : Rat) ≤ 2700001 := by exact_mod_cast h
  have hn0 : (0 : Rat) ≤ (n : Rat) := by exact_mod_cast Nat.zero_le _
  unfold xi
  refine ⟨rmul0 hn0 q0, ?_⟩
  have := rmul hn0 hn q0 q1
  grind
theorem xi_one : 0 ≤ xi 1 ∧ xi 1 ≤ 1 / 3437000 := by
  have h1 : (piN : Rat) * 3437000 ≤ (piD : Rat) := by exact_mod_cast (show piN * 3437000 ≤ piD by decide +kernel)
  have hd : (0 : Rat) < (piD : Rat) := by exact_mod_cast (show 0 < piD by decide +kernel)
  refine ⟨(xi_in (by decide)).1, ?_⟩
  unfold xi
  refine Rat.le_of_mul_le_mul_right (c := (piD : Rat)) ?_ hd
  have : ((1 : Nat) : Rat) * ((piN : Rat) / (piD : Rat)) * (piD : Rat) = (piN : Rat) := by
    rw [Rat.mul_assoc, Rat.div_mul_cancel (by grind)]
    simp
  rw [this]
  grind
theorem sq_in {x : Rat} (h : 0 ≤ x ∧ x ≤ 4 / 5) : 0 ≤ x * x ∧ x * x ≤ 16 / 25 := by
  refine ⟨rmul0 h.1 h.1, ?_⟩
  have := rmul h.1 h.2 h.1 h.2
  grind
theorem cos_in {n : Nat} (h : n ≤ 2700001) : 17 / 25 ≤ cosT n ∧ cosT n ≤ 1 := by
  have hq := sq_in (xi_in h)
  obtain ⟨a, b⟩ := tay_in hq.1 (by grind) (m := 14) (d := 1) (by decide)
  unfold cosT
  constructor <;> grind
theorem sin_in {n : Nat} (h : n ≤ 2700001) : 0 ≤ sinT n ∧ sinT n ≤ xi n := by
  have hx := xi_in h
  have hq := sq_in hx
  obtain ⟨a, b⟩ := tay_in hq.1 (by grind) (m := 14) (d := 2) (by decide)
  unfold sinT
  generalize tay (xi n * xi n) 2 14 = t at *
  have h1 := rmul0 hx.1 (show 0 ≤ 1 - t by grind)
  have h2 := rmul0 hx.1 a
  constructor <;> grind
def k96 : Rat := 79228162514264337593543950336
theorem one_ab : (evI lisS 1 * 79228162514264337593543950336 - 23046538269650701392778 * (facW : Int)).natAbs ≤ facW ∧ (evI lisC 1 * 79228162514264337593543950336 - 79228162514260985610427347966 * (facW : Int)).natAbs ≤ facW := by decide +kernel
theorem one_near : Nr (23046538269650701392778 / k96) (sinT 1) (1 / k96) ∧ Nr (79228162514260985610427347966 / k96) (cosT 1) (1 / k96) := by
  have h2 := lisS_ok 1
  have h3 := lisC_ok 1
  have hW := facW_rat
  have hk : (0 : Rat) < k96 := by decide +kernel
  have hM : (facW : Rat) ≤ 1 / k96 * ((facW : Rat) * k96) := by
    have : 1 / k96 * ((facW : Rat) * k96) = (facW : Rat) := by grind
    rw [this]; exact Rat.le_refl
  have hp : (0 : Rat) < (facW : Rat) * k96 := Rat.mul_pos hW hk
  constructor
  · refine (nr_of_int (W := (facW : Rat) * k96) (x := evI lisS 1 * 79228162514264337593543950336 - 23046538269650701392778 * (facW : Int)) hp ?_ one_ab.1 hM).symm
    push_cast at h2 ⊢
    rw [← h2]
    unfold k96
    grind
  · refine (nr_of_int (W := (facW : Rat) * k96) (x := evI lisC 1 * 79228162514264337593543950336 - 79228162514260985610427347966 * (facW : Int)) hp ?_ one_ab.2 hM).symm
    push_cast at h3 ⊢
    rw [← h3]
    unfold k96
    grind
theorem rot_step {K s c s1 c1 : Nat} {k S C S1 C1 e ep S' C' : Rat} (hK : 0 < K) (hk : k = (K : Rat)) (hs : Nr ((s : Rat) / k) S e) (hc : Nr ((c : Rat) / k) C e)
    (hs1 : Nr ((s1 : Rat) / k) S1 (1 / k)) (hc1 : Nr ((c1 : Rat) / k) C1 (1 / k)) (SS : S ≤ 4 / 5) (C0 : 17 / 25 ≤ C) (CC : C ≤ 1)
    (a0 : 0 ≤ S1) (a1 : S1 ≤ 1 / 3437000) (b0 : 17 / 25 ≤ C1) (b1 : C1 ≤ 1) (he : e ≤ 1 / 100) (hk1 : 1 / k ≤ 1 / 100)
    (hS' : Nr S' (S * C1 + C * S1) ep) (hC' : Nr C' (C * C1 - S * S1) ep) :
    Nr (((s * c1 + c * s1) / K : Nat) / k) S' (e + e / 3437000 + 4 / k + ep) ∧ Nr (((c * c1 - s * s1) / K : Nat) / k) C' (e + e / 3437000 + 4 / k + ep) := by
  have hk0 : (0 : Rat) < k := by rw [hk]; exact_mod_cast hK
  have hi : 0 < 1 / k := by rw [Rat.div_def, Rat.one_mul]; exact Rat.inv_pos.2 hk0
  have e0 := hs.pos
  have nn : ∀ a : Nat, (0 : Rat) ≤ (a : Rat) / k := fun a => by
    rw [Rat.div_def]; exact rmul0 (by exact_mod_cast Nat.zero_le _) (Rat.le_of_lt (Rat.inv_pos.2 hk0))
  have s0 := nn s
  have c0 := nn c
  have s10 := nn s1
  have sm : (s : Rat) / k ≤ 1 := by obtain ⟨h1, h2⟩ := hs; grind
  have cm : (c : Rat) / k ≤ 2 := by obtain ⟨h1, h2⟩ := hc; grind
  have cl : 1 / 2 ≤ (c : Rat) / k := by obtain ⟨h1, h2⟩ := hc; grind
  have c1l : 1 / 2 ≤ (c1 : Rat) / k := by obtain ⟨h1, h2⟩ := hc1; grind
  have s1m : (s1 : Rat) / k ≤ 1 / 50 := by obtain ⟨h1, h2⟩ := hs1; grind
  -- products
  have p1 := hs.mul hc1 s0 sm (show 0 ≤ C1 by grind) b1
  have p2 := hc.mul hs1 c0 cm a0 a1
  have p3 := hc.mul hc1 c0 cm (show 0 ≤ C1 by grind) b1
  have p4 := hs.mul hs1 s0 sm a0 a1
  have q1 := (p1.add p2)
  have q2 := (p3.sub p4)
  have fin : ∀ {x : Nat} {A B E : Rat}, (x : Rat) / k / k = A → Nr A B E → Nr (((x / K : Nat) : Rat) / k) B (1 / k + E) := fun {x A B E} h1 h2 => by
    have h3 := nfl (a := x) hK
    rw [← hk] at h3
    have h4 := h3.mulc (c := 1 / k) (m := 1 / k) (Rat.le_of_lt hi) (by grind) (by grind)
    have h5 : Nr (((x / K : Nat) : Rat) / k) A (1 / k) := by
      rw [← h1]
      have e1 : 1 / k * ((x / K : Nat) : Rat) = ((x / K : Nat) : Rat) / k := by grind
      have e2 : 1 / k * ((x : Rat) / k) = (x : Rat) / k / k := by grind
      rw [e1, e2] at h4
      exact h4.le (by grind)
    exact h5.trans h2
  constructor
  · have := (fin (x := s * c1 + c * s1) (by push_cast; grind) q1).trans hS'.symm
    refine this.le ?_
    grind
  · have hle : s * s1 ≤ c * c1 := by
      have h1 := rmul s0 sm s10 s1m
      have h2 := rmul (show (0 : Rat) ≤ 1 / 2 by grind) cl (show (0 : Rat) ≤ 1 / 2 by grind) c1l
      have h3 : (s : Rat) / k * ((s1 : Rat) / k) ≤ (c : Rat) / k * ((c1 : Rat) / k) := by grind
      have h4 := Rat.mul_le_mul_of_nonneg_right h3 (Rat.le_of_lt (Rat.mul_pos hk0 hk0))
      have h5 : (s : Rat) * (s1 : Rat) ≤ (c : Rat) * (c1 : Rat) := by
        have x1 : (s : Rat) / k * ((s1 : Rat) / k) * (k * k) = (s : Rat) * (s1 : Rat) := by grind
        have x2 : (c : Rat) / k * ((c1 : Rat) / k) * (k * k) = (c : Rat) * (c1 : Rat) := by grind
        rw [x1, x2] at h4; exact h4
      exact_mod_cast h5
    have hsub : ((c * c1 - s * s1 : Nat) : Rat) = (c : Rat) * c1 - (s : Rat) * s1 := by
      have h1 : c * c1 - s * s1 + s * s1 = c * c1 := Nat.sub_add_cancel hle
      have h2 : ((c * c1 - s * s1 : Nat) : Rat) + (s : Rat) * s1 = (c : Rat) * c1 := by exact_mod_cast h1
      grind
    have := (fin (x := c * c1 - s * s1) (by rw [hsub]; grind) q2).trans hC'.symm
    refine this.le ?_
    grind
theorem tay_zero : ∀ {m d : Nat}, tay 0 d m = 0
  | 0, _ => rfl
  | m + 1, d => by
    simp only [tay]
    rw [Rat.div_def, Rat.zero_mul, Rat.zero_mul]
theorem sin_zero : sinT 0 = 0 := by unfold sinT xi; grind
theorem cos_zero : cosT 0 = 1 := by
  have : xi 0 * xi 0 = 0 := by unfold xi; grind
  unfold cosT
  rw [this, tay_zero]
  grind
theorem rotN_succ (r : Nat) : rotN (r + 1) = (((rotN r).1 * 79228162514260985610427347966 + (rotN r).2 * 23046538269650701392778) / 79228162514264337593543950336, ((rotN r).2 * 79228162514260985610427347966 - (rotN r).1 * 23046538269650701392778) / 79228162514264337593543950336) := rfl
theorem rot_near : ∀ {r : Nat}, r ≤ 2700000 → Nr (((rotN r).1 : Rat) / k96) (sinT r) (64 * (r : Rat) / k96) ∧ Nr (((rotN r).2 : Rat) / k96) (cosT r) (64 * (r : Rat) / k96)
  | 0, _ => by
    rw [sin_zero, cos_zero, show rotN 0 = (0, 79228162514264337593543950336) from rfl]
    have hk : k96 / k96 = 1 := by unfold k96; grind
    constructor
    · constructor <;> grind
    · have : ((79228162514264337593543950336 : Nat) : Rat) / k96 = 1 := hk
      rw [this]
      constructor <;> grind
  | r + 1, h => by
    obtain ⟨h1, h2⟩ := rot_near (r := r) (by omega)
    obtain ⟨h3, h4⟩ := one_near
    have hx := xi_in (n := r) (by omega)
    have hs := sin_in (n := r) (by omega)
    have hc := cos_in (n := r) (by omega)
    have hs1 := sin_in (n := 1) (by omega)
    have hc1 := cos_in (n := 1) (by omega)
    have hx1 := xi_one
    have hr : (r : Rat) ≤ 2700000 := by exact_mod_cast (show r ≤ 2700000 by omega)
    have hr0 : (0 : Rat) ≤ (r : Rat) := by exact_mod_cast Nat.zero_le r
    have hki : 1 / k96 * k96 = 1 := by unfold k96; grind
    have hk : 0 < 1 / k96 ∧ 1 / k96 ≤ 1 / 10000000000000000000000000000 := by
      unfold k96
      constructor <;> grind
    have he : eps ≤ 1 / k96 := by unfold eps k96; grind
    have g1 : 64 * (r : Rat) / k96 ≤ 1 / 100 := by
      have := rmul hr0 hr (Rat.le_of_lt hk.1) hk.2
      grind
    have st := rot_step (K := 79228162514264337593543950336) (k := k96) (s1 := 23046538269650701392778) (c1 := 79228162514260985610427347966) (by decide) rfl h1 h2 h3 h4 (by grind) hc.1 hc.2 hs1.1 (by grind) hc1.1 hc1.2 g1 (by grind) (sin_step (n := r) (by omega)) (cos_step (n := r) (by omega))
    rw [rotN_succ]
    have e1 : 64 * (r : Rat) / k96 + 64 * (r : Rat) / k96 / 3437000 + 4 / k96 + eps ≤ 64 * ((r + 1 : Nat) : Rat) / k96 := by
      have h5 := rmul hr0 hr (Rat.le_of_lt hk.1) (show 1 / k96 ≤ 1 / k96 by exact Rat.le_refl)
      push_cast
      grind
    exact ⟨st.1.le e1, st.2.le e1⟩
def Bt (f : Nat) (v : Rat) : Prop := (f : Rat) / 1073741824 + 1000 / 4611686018427387904 ≤ v ∧ v ≤ ((f : Rat) + 1) / 1073741824 - 1000 / 4611686018427387904
theorem gap_ok {G M x : Nat} (hG : 2 * G < M) (h : gapV G (2 * G) M x) : x / M * M + G ≤ x ∧ x + G ≤ (x / M + 1) * M := by
  unfold gapV at h
  have hM : 0 < M := by omega
  have h1 := Nat.div_add_mod x M
  have h2 := Nat.mod_lt x hM
  rw [Nat.add_mod, Nat.mod_eq_of_lt (show G < M by omega)] at h
  rw [Nat.add_mul, Nat.one_mul, Nat.mul_comm]
  generalize x % M = y at *
  generalize M * (x / M) = z at *
  have h4 : G ≤ y ∧ y + G ≤ M := by
    by_cases h3 : y + G < M
    · rw [Nat.mod_eq_of_lt h3] at h; omega
    · rw [Nat.mod_eq_sub_mod (by omega), Nat.mod_eq_of_lt (by omega)] at h; omega
  omega
theorem bt_of {x r : Nat} {v : Rat} (hr : r ≤ 2700000) (h : gapN x) (hn : Nr ((x : Rat) / k96) v (64 * (r : Rat) / k96)) : Bt (x / 73786976294838206464) v := by
  obtain ⟨h1, h2⟩ := gap_ok (G := 17592186044416) (M := 73786976294838206464) (by decide) h
  generalize x / 73786976294838206464 = f at *
  have e1 : (f : Rat) * 73786976294838206464 + 17592186044416 ≤ (x : Rat) := by exact_mod_cast h1
  have e2 : (x : Rat) + 17592186044416 ≤ ((f : Rat) + 1) * 73786976294838206464 := by exact_mod_cast h2
  have hr2 : (r : Rat) ≤ 2700000 := by exact_mod_cast hr
  have hk : (0 : Rat) ≤ 1 / k96 := by unfold k96; grind
  obtain ⟨h3, h4⟩ := hn
  have e3 := Rat.mul_le_mul_of_nonneg_right e1 hk
  have e4 := Rat.mul_le_mul_of_nonneg_right e2 hk
  have e5 := Rat.mul_le_mul_of_nonneg_right hr2 hk
  unfold Bt
  unfold k96 at *
  constructor <;> grind
end Go.Proofs.YtkhhdpndcidmgaaGreat
/- The quotient of two words by one, as math/bits reckons it: the plain law (Knuth's digits, of any base B). No program in sight. -/
namespace Go.Proofs.YtkhhdpndcidmgaaGreat

structure DI (B U y1 y0 c q r : Nat) : Prop where
  eq : q * y1 + r = U
  up : U * B + c < (q + 1) * (y1 * B + y0)
  qb : q ≤ B + 1
theorem di_init {B U y1 y0 c : Nat} (h1 : B ≤ 2 * y1) (h0 : y0 < B) (hU : U < y1 * B + y0) (hc : c < B) : DI B U y1 y0 c (U / y1) (U % y1) ∧ U % y1 < y1 := by
  have hlt : U % y1 < y1 := Nat.mod_lt _ (by omega)
  have he : U / y1 * y1 + U % y1 = U := by rw [Nat.mul_comm]; exact Nat.div_add_mod U y1
  refine ⟨⟨he, ?_, ?_⟩, hlt⟩
  · have h2 : U + 1 ≤ (U / y1 + 1) * y1 := by rw [Nat.succ_mul]; omega
    have h3 : (U + 1) * B ≤ (U / y1 + 1) * y1 * B := Nat.mul_le_mul_right _ h2
    have h4 : (U / y1 + 1) * (y1 * B + y0) = (U / y1 + 1) * y1 * B + (U / y1 + 1) * y0 := by rw [Nat.mul_add, Nat.mul_assoc]
    rw [h4]
    rw [Nat.succ_mul] at h3
    generalize (U / y1 + 1) * y1 * B = A at *
    generalize (U / y1 + 1) * y0 = C at *
    generalize U * B = D at *
    omega
  · have e : y1 * (B + 2) = y1 * B + y1 * 2 := Nat.mul_add _ _ _
    have h2 : U < y1 * (B + 2) := by
      rw [e]
      generalize y1 * B = A at *
      omega
    have := Nat.div_lt_of_lt_mul h2
    omega
theorem di_step {B U y1 y0 c q r : Nat} (h : DI B U y1 y0 c q r) (hU : U < y1 * B + y0) (hc : c < B) (hcond : B ≤ q ∨ r * B + c < q * y0) : 0 < q ∧ DI B U y1 y0 c (q - 1) (r + y1) ∧ q - 1 ≤ B := by
  have hq : 0 < q := by
    rcases hcond with h1 | h1
    · omega
    · rcases Nat.eq_zero_or_pos q with e | e
      · rw [e, Nat.zero_mul] at h1; omega
      · exact e
  obtain ⟨p, rfl⟩ : ∃ p, q = p + 1 := ⟨q - 1, by omega⟩
  have he := h.eq
  rw [Nat.succ_mul] at he
  refine ⟨hq, ⟨by rw [Nat.add_sub_cancel]; omega, ?_, by have := h.qb; omega⟩, by have := h.qb; omega⟩
  rw [Nat.add_sub_cancel]
  rcases hcond with h1 | h1
  · have h2 : (U + 1) * B ≤ (y1 * B + y0) * B := Nat.mul_le_mul_right _ hU
    have h3 : B * (y1 * B + y0) ≤ (p + 1) * (y1 * B + y0) := Nat.mul_le_mul_right _ h1
    rw [Nat.succ_mul] at h2
    rw [Nat.mul_comm B] at h3
    generalize (p + 1) * (y1 * B + y0) = A at *
    generalize (y1 * B + y0) * B = C at *
    generalize U * B = D at *
    omega
  · have h4 : (p + 1) * (y1 * B + y0) = (p + 1) * y1 * B + (p + 1) * y0 := by rw [Nat.mul_add, Nat.mul_assoc]
    have h5 : U * B = (p + 1) * y1 * B + r * B := by rw [← Nat.add_mul, h.eq]
    rw [h4, h5]
    generalize (p + 1) * y1 * B = A at *
    generalize (p + 1) * y0 = C at *
    generalize r * B = D at *
    omega
theorem di_done {B U y1 y0 c q r : Nat} (h : DI B U y1 y0 c q r) (hle : q * y0 ≤ r * B + c) : (U * B + c) / (y1 * B + y0) = q ∧ q * (y1 * B + y0) ≤ U * B + c := by
  have h4 : q * (y1 * B + y0) = q * y1 * B + q * y0 := by rw [Nat.mul_add, Nat.mul_assoc]
  have h5 : U * B = q * y1 * B + r * B := by rw [← Nat.add_mul, h.eq]
  have hup := h.up
  have hle2 : q * (y1 * B + y0) ≤ U * B + c := by
    rw [h4, h5]
    generalize q * y1 * B = A at *
    generalize q * y0 = C at *
    generalize r * B = D at *
    omega
  exact ⟨Nat.div_eq_of_lt_le hle2 hup, hle2⟩
theorem di_break {B y0 c q r : Nat} (h0 : y0 < B) (hq : q ≤ B) (hr : B ≤ r) : q * y0 ≤ r * B + c :=
  Nat.le_trans (Nat.mul_le_mul hq (Nat.le_of_lt h0)) (Nat.le_trans (Nat.mul_le_mul_right B hr) (Nat.le_add_right _ _))
theorem two_digits {B U c1 c0 y : Nat} (hy : 0 < y) : ((U * B + c1) * B + c0) / y = (U * B + c1) / y * B + ((U * B + c1) % y * B + c0) / y ∧
    ((U * B + c1) * B + c0) % y = ((U * B + c1) % y * B + c0) % y := by
  have h := Nat.div_add_mod (U * B + c1) y
  generalize U * B + c1 = T at *
  have e : T * B + c0 = y * (T / y * B) + (T % y * B + c0) := by
    have h2 : T * B = y * (T / y) * B + T % y * B := by rw [← Nat.add_mul, h]
    rw [h2, ← Nat.mul_assoc, Nat.add_assoc]
  constructor
  · rw [e, Nat.mul_add_div hy]
  · rw [e, Nat.mul_add_mod]
theorem shifted (M y s : Nat) : (M * 2 ^ s) / (y * 2 ^ s) = M / y ∧ (M * 2 ^ s) % (y * 2 ^ s) / 2 ^ s = M % y := by
  have hp : 0 < 2 ^ s := Nat.pow_pos (by decide)
  constructor
  · exact Nat.mul_div_mul_right M y hp
  · rw [Nat.mul_mod_mul_right, Nat.mul_div_cancel _ hp]
end Go.Proofs.YtkhhdpndcidmgaaGreat
/- Rounded sums that are near to the sine and the cosine: with 256 binary digits, and with 62. No program in sight. -/
namespace Go.Proofs.YtkhhdpndcidmgaaGreat

section
variable {B y : Nat}
def ChainN (B y : Nat) : Nat → Nat → Nat → Prop
  | _, 0, u => u = 0
  | d, m + 1, u => ∃ u' p, ChainN B y (d + 2) m u' ∧ p * B ≤ y / (d * (d + 1)) * u' ∧ y / (d * (d + 1)) * u' ≤ (p + 2) * B ∧ u + p = y / (d * (d + 1))
theorem dd_ge {d : Nat} (h : 1 ≤ d) : 2 ≤ d * (d + 1) := Nat.mul_le_mul h (show 2 ≤ d + 1 by omega)
theorem natB {a b B : Nat} (hB : 0 < B) (h : a ≤ b) : (a : Rat) / (B : Rat) ≤ (b : Rat) / (B : Rat) := by
  rw [Rat.div_def, Rat.div_def]
  exact Rat.mul_le_mul_of_nonneg_right (by exact_mod_cast h) (Rat.le_of_lt (Rat.inv_pos.2 (by exact_mod_cast hB)))
theorem nat0 {a B : Nat} (hB : 0 < B) : (0 : Rat) ≤ (a : Rat) / (B : Rat) := by
  rw [Rat.div_def]
  exact rmul0 (by exact_mod_cast Nat.zero_le a) (Rat.le_of_lt (Rat.inv_pos.2 (by exact_mod_cast hB)))
theorem nr_mul {a b p k B : Nat} (hB : 0 < B) (h1 : p * B ≤ a * b) (h2 : a * b ≤ (p + k) * B) : Nr ((p : Rat) / (B : Rat)) ((a : Rat) / (B : Rat) * ((b : Rat) / (B : Rat))) ((k : Rat) / (B : Rat)) := by
  have hB2 : (0 : Rat) < (B : Rat) := by exact_mod_cast hB
  have e1 : (p : Rat) * (B : Rat) ≤ (a : Rat) * (b : Rat) := by exact_mod_cast h1
  have e2 : (a : Rat) * (b : Rat) ≤ ((p : Rat) + (k : Rat)) * (B : Rat) := by exact_mod_cast h2
  have hBB := Rat.mul_pos hB2 hB2
  have x1 : (a : Rat) / (B : Rat) * ((b : Rat) / (B : Rat)) * ((B : Rat) * (B : Rat)) = (a : Rat) * (b : Rat) := by grind
  have x2 : (p : Rat) / (B : Rat) * ((B : Rat) * (B : Rat)) = (p : Rat) * (B : Rat) := by grind
  have x3 : (k : Rat) / (B : Rat) * ((B : Rat) * (B : Rat)) = (k : Rat) * (B : Rat) := by grind
  have k0 : (0 : Rat) ≤ (k : Rat) * (B : Rat) := rmul0 (by exact_mod_cast Nat.zero_le k) (Rat.le_of_lt hB2)
  constructor
  · refine Rat.le_of_mul_le_mul_right (c := (B : Rat) * (B : Rat)) ?_ hBB
    rw [Rat.add_mul, x1, x2, x3]
    grind
  · refine Rat.le_of_mul_le_mul_right (c := (B : Rat) * (B : Rat)) ?_ hBB
    rw [Rat.add_mul, x1, x2, x3]
    grind
theorem nr_div {y k B : Nat} (hB : 0 < B) (hk : 0 < k) : Nr (((y / k : Nat) : Rat) / (B : Rat)) ((y : Rat) / (B : Rat) / (k : Rat)) (1 / (B : Rat)) := by
  have h := nfl (a := y) hk
  have hB2 : (0 : Rat) < (B : Rat) := by exact_mod_cast hB
  have := h.mulc (c := 1 / (B : Rat)) (m := 1 / (B : Rat)) (by rw [Rat.div_def, Rat.one_mul]; exact Rat.le_of_lt (Rat.inv_pos.2 hB2)) Rat.le_refl (by grind)
  have e1 : 1 / (B : Rat) * ((y / k : Nat) : Rat) = ((y / k : Nat) : Rat) / (B : Rat) := by grind
  have e2 : 1 / (B : Rat) * ((y : Rat) / (k : Rat)) = (y : Rat) / (B : Rat) / (k : Rat) := by grind
  rw [e1, e2] at this
  exact this.le (by grind)
theorem chain_ok (hB : 0 < B) (hy : y ≤ B) : ∀ {m d u : Nat}, 1 ≤ d → ChainN B y d m u → u ≤ y / (d * (d + 1)) ∧ Nr ((u : Rat) / (B : Rat)) (tay ((y : Rat) / (B : Rat)) d m) (6 / (B : Rat))
  | 0, d, u, hd, h => by
    have hu : u = 0 := h
    subst hu
    have hB2 : (0 : Rat) < (B : Rat) := by exact_mod_cast hB
    have : (0 : Rat) ≤ 6 / (B : Rat) := by
      rw [Rat.div_def]; exact rmul0 (by grind) (Rat.le_of_lt (Rat.inv_pos.2 hB2))
    refine ⟨Nat.zero_le _, ?_⟩
    have e : ((0 : Nat) : Rat) / (B : Rat) = 0 := by simp [Rat.div_def]
    rw [e]
    unfold tay
    constructor <;> grind
  | m + 1, d, u, hd, ⟨u', p, hc, h1, h2, h3⟩ => by
    obtain ⟨hu, ih⟩ := chain_ok hB hy (m := m) (d := d + 2) (by omega) hc
    refine ⟨by omega, ?_⟩
    have hB2 : (0 : Rat) < (B : Rat) := by exact_mod_cast hB
    have hdd := dd_ge hd
    have hy1 : (y : Rat) / (B : Rat) ≤ 1 := by
      have := natB hB hy
      rwa [show (B : Rat) / (B : Rat) = 1 by grind] at this
    have hy0 := nat0 (a := y) hB
    have hq := nr_div (y := y) hB (show 0 < d * (d + 1) by omega)
    have hm := nr_mul hB h1 h2
    generalize hqq : y / (d * (d + 1)) = q at *
    have hq0 := nat0 (a := q) hB
    have hq1 : (q : Rat) / (B : Rat) ≤ 1 / 2 := by
      have h5 : q * 2 ≤ B := by
        rw [← hqq]
        have := Nat.div_mul_le_self y (d * (d + 1))
        have := Nat.mul_le_mul_left (y / (d * (d + 1))) hdd
        omega
      have h6 : (q : Rat) * 2 ≤ (B : Rat) := by exact_mod_cast h5
      refine Rat.le_of_mul_le_mul_right (c := (B : Rat)) ?_ hB2
      rw [Rat.div_mul_cancel (by grind)]
      grind
    obtain ⟨t0, t1⟩ := tay_in hy0 hy1 (m := m) (d := d + 2) (by omega)
    have hu2 : (u : Rat) / (B : Rat) = (q : Rat) / (B : Rat) - (p : Rat) / (B : Rat) := by
      have : (u : Rat) + (p : Rat) = (q : Rat) := by exact_mod_cast h3
      rw [← this]
      grind
    have hone := ((Nr.refl 1).sub ih)
    have hp := hq.mul hone hq0 hq1 (show 0 ≤ 1 - tay ((y : Rat) / (B : Rat)) (d + 2) m by grind) (show 1 - tay ((y : Rat) / (B : Rat)) (d + 2) m ≤ 1 by grind)
    rw [hu2]
    have e1 : (q : Rat) / (B : Rat) * (1 - (u' : Rat) / (B : Rat)) = (q : Rat) / (B : Rat) - (q : Rat) / (B : Rat) * ((u' : Rat) / (B : Rat)) := by grind
    rw [e1] at hp
    have hs := ((Nr.refl ((q : Rat) / (B : Rat))).sub hm).trans hp
    have e2 : tay ((y : Rat) / (B : Rat)) d (m + 1) = (y : Rat) / (B : Rat) / ((d * (d + 1) : Nat) : Rat) * (1 - tay ((y : Rat) / (B : Rat)) (d + 2) m) := by
      simp only [tay]
      push_cast
      rfl
    rw [e2]
    refine hs.le ?_
    have e3 : ((2 : Nat) : Rat) / (B : Rat) = 2 * (1 / (B : Rat)) := by push_cast; grind
    have e4 : (6 : Rat) / (B : Rat) = 6 * (1 / (B : Rat)) := by grind
    rw [e3, e4]
    grind
end
def b256 : Nat := 115792089237316195423570985008687907853269984665640564039457584007913129639936
theorem b256_pos : 0 < b256 := by decide +kernel
theorem b256_rat : (0 : Rat) < (b256 : Rat) := by exact_mod_cast b256_pos
def sml : Rat := 1 / 1000000000000000000000000000
theorem b256_sml : 20 / (b256 : Rat) ≤ sml / 2 := by
  have h : 40 * 1000000000000000000000000000 ≤ b256 := by decide +kernel
  have h2 : (40 : Rat) * 1000000000000000000000000000 ≤ (b256 : Rat) := by exact_mod_cast h
  refine Rat.le_of_mul_le_mul_right (c := (b256 : Rat)) ?_ b256_rat
  rw [Rat.div_mul_cancel (by have := b256_rat; grind)]
  unfold sml
  grind
theorem facT_sml {d : Nat} (h : 304888344611713860501504000000 ≤ facT d 14) : 1 / (2 * (facT d 14 : Rat)) ≤ sml / 2 := by
  have h2 : (304888344611713860501504000000 : Rat) ≤ (facT d 14 : Rat) := by exact_mod_cast h
  have h0 : (0 : Rat) < 2 * (facT d 14 : Rat) := by grind
  refine Rat.le_of_mul_le_mul_right (c := 2 * (facT d 14 : Rat)) ?_ h0
  rw [Rat.div_mul_cancel (by grind)]
  unfold sml
  grind
theorem xi_near (r : Nat) : Nr (((r * piN / 10800000 : Nat) : Rat) / (b256 : Rat)) (xi r) (1 / (b256 : Rat)) := by
  have h := nr_div (y := r * piN) (k := 10800000) b256_pos (by decide)
  have e : ((r * piN : Nat) : Rat) / (b256 : Rat) / ((10800000 : Nat) : Rat) = xi r := by
    have h0 : piD = b256 * 10800000 := by decide +kernel
    have hb := b256_rat
    unfold xi
    rw [h0]
    generalize (10800000 : Nat) = k
    push_cast
    grind
  rw [e] at h
  exact h
theorem sq_near {r x y : Nat} (hr : r ≤ 2700000) (hx : x = r * piN / 10800000) (h1 : y * b256 ≤ x * x) (h2 : x * x ≤ (y + 2) * b256) : y ≤ b256 ∧ Nr ((x : Rat) / (b256 : Rat)) (xi r) (1 / (b256 : Rat)) ∧ Nr ((y : Rat) / (b256 : Rat)) (xi r * xi r) (4 / (b256 : Rat)) ∧ (x : Rat) / (b256 : Rat) ≤ 1 := by
  have hn := xi_near r
  rw [← hx] at hn
  have hx4 := xi_in (n := r) (by omega)
  have hb := b256_sml
  have hsm : sml ≤ 1 / 100 := by unfold sml; grind
  have hb1 : 0 ≤ 1 / (b256 : Rat) := hn.pos
  have e20 : 20 / (b256 : Rat) = 20 * (1 / (b256 : Rat)) := by grind
  rw [e20] at hb
  have hx1 : (x : Rat) / (b256 : Rat) ≤ 1 := by
    obtain ⟨a, b⟩ := hn; grind
  have hx0 := nat0 (a := x) b256_pos
  have hm := nr_mul b256_pos h1 h2
  have hp := hn.mul hn hx0 hx1 hx4.1 (show xi r ≤ 1 by grind)
  have ht := hm.trans hp
  have e2 : ((2 : Nat) : Rat) / (b256 : Rat) = 2 * (1 / (b256 : Rat)) := by push_cast; grind
  have e4 : (4 : Rat) / (b256 : Rat) = 4 * (1 / (b256 : Rat)) := by grind
  refine ⟨?_, hn, ht.le (by rw [e2, e4]; grind), hx1⟩
  have hq := sq_in hx4
  have hy1 : (y : Rat) / (b256 : Rat) ≤ 1 := by
    have := ht.1
    rw [e2] at this
    grind
  have := Rat.mul_le_mul_of_nonneg_right hy1 (Rat.le_of_lt b256_rat)
  rw [Rat.div_mul_cancel (by have := b256_rat; grind), Rat.one_mul] at this
  exact_mod_cast this
theorem chain_near {r y u d : Nat} (hr : r ≤ 2700000) (hy : y ≤ b256) (hn : Nr ((y : Rat) / (b256 : Rat)) (xi r * xi r) (4 / (b256 : Rat))) (hd : 1 ≤ d) (hf : 304888344611713860501504000000 ≤ facT d 14) (hc : ChainN b256 y d 34 u) : Nr ((u : Rat) / (b256 : Rat)) (tay (xi r * xi r) d 14) (10 / (b256 : Rat) + sml / 2) := by
  have h1 := (chain_ok b256_pos hy hd hc).2
  have hq := sq_in (xi_in (n := r) (by omega))
  have hy0 := nat0 (a := y) b256_pos
  have hy1 : (y : Rat) / (b256 : Rat) ≤ 1 := by
    have := natB b256_pos hy
    rwa [show (b256 : Rat) / (b256 : Rat) = 1 by have := b256_rat; grind] at this
  have h2 := tay_arg hy0 hy1 hq.1 (by grind) hn (m := 34) hd
  have h3 := tay_more hq.1 (by grind) 20 (m := 14) hd
  exact ((h1.trans h2).trans h3).le (by have := facT_sml hf; grind)
theorem ser_sin {r x y u p s : Nat} (hr : r ≤ 2700000) (hx : x = r * piN / 10800000) (h1 : y * b256 ≤ x * x) (h2 : x * x ≤ (y + 2) * b256) (hc : ChainN b256 y 2 34 u) (h3 : p * b256 ≤ x * u) (h4 : x * u ≤ (p + 2) * b256) (hs : s + p = x) : Nr ((s : Rat) / (b256 : Rat)) (sinT r) sml := by
  obtain ⟨hy, hn, hq, hx1⟩ := sq_near hr hx h1 h2
  have hu := chain_near hr hy hq (by decide) (by decide +kernel) hc
  have hm := nr_mul b256_pos h3 h4
  have hx0 := nat0 (a := x) b256_pos
  have hx4 := xi_in (n := r) (by omega)
  obtain ⟨t0, t1⟩ := tay_in (sq_in hx4).1 (by have := (sq_in hx4).2; grind) (m := 14) (d := 2) (by decide)
  have hp := hn.mul ((Nr.refl 1).sub hu) hx0 hx1 (show 0 ≤ 1 - tay (xi r * xi r) 2 14 by have := (sq_in hx4).2; grind) (show 1 - tay (xi r * xi r) 2 14 ≤ 1 by grind)
  have hs2 : (s : Rat) / (b256 : Rat) = (x : Rat) / (b256 : Rat) - (p : Rat) / (b256 : Rat) := by
    have : (s : Rat) + (p : Rat) = (x : Rat) := by exact_mod_cast hs
    have hb := b256_rat
    rw [← this]
    grind
  have e1 : (x : Rat) / (b256 : Rat) * (1 - (u : Rat) / (b256 : Rat)) = (x : Rat) / (b256 : Rat) - (x : Rat) / (b256 : Rat) * ((u : Rat) / (b256 : Rat)) := by grind
  rw [e1] at hp
  have hf := ((Nr.refl ((x : Rat) / (b256 : Rat))).sub hm).trans hp
  rw [hs2]
  unfold sinT
  refine hf.le ?_
  have hb := b256_sml
  have e2 : ((2 : Nat) : Rat) / (b256 : Rat) = 2 * (1 / (b256 : Rat)) := by push_cast; grind
  have e20 : 20 / (b256 : Rat) = 20 * (1 / (b256 : Rat)) := by grind
  have e10 : 10 / (b256 : Rat) = 10 * (1 / (b256 : Rat)) := by grind
  have hb1 := hn.pos
  rw [e20] at hb
  rw [e2, e10]
  grind
theorem ser_cos {r x y u : Nat} (hr : r ≤ 2700000) (hx : x = r * piN / 10800000) (h1 : y * b256 ≤ x * x) (h2 : x * x ≤ (y + 2) * b256) (hc : ChainN b256 y 1 34 u) : Nr (1 - (u : Rat) / (b256 : Rat)) (cosT r) sml := by
  obtain ⟨hy, hn, hq, -⟩ := sq_near hr hx h1 h2
  have hu := chain_near hr hy hq (by decide) (by decide +kernel) hc
  have hp := (Nr.refl 1).sub hu
  unfold cosT
  refine hp.le ?_
  have hb := b256_sml
  have e20 : 20 / (b256 : Rat) = 20 * (1 / (b256 : Rat)) := by grind
  have e10 : 10 / (b256 : Rat) = 10 * (1 / (b256 : Rat)) := by grind
  have hb1 := hn.pos
  rw [e20] at hb
  rw [e10]
  grind
theorem cell_of {s f : Nat} {V : Rat} (h : Nr ((s : Rat) / (b256 : Rat)) V sml) (hb : Bt f V) : s / 107839786668602559178668060348078522694548577690162289924414440996864 = f := by
  obtain ⟨h1, h2⟩ := h
  obtain ⟨b1, b2⟩ := hb
  have hb := b256_rat
  have e : (b256 : Rat) = ((107839786668602559178668060348078522694548577690162289924414440996864 : Nat) : Rat) * ((1073741824 : Nat) : Rat) := by
    rw [show b256 = 107839786668602559178668060348078522694548577690162289924414440996864 * 1073741824 by decide +kernel]
    exact Rat.natCast_mul _ _
  have hs : sml ≤ 1 / 4611686018427387904 := by unfold sml; grind
  have l1 : (f : Rat) / 1073741824 ≤ (s : Rat) / (b256 : Rat) := by grind
  have l2 : (s : Rat) / (b256 : Rat) ≤ ((f : Rat) + 1) / 1073741824 - 1 / 4611686018427387904 := by grind
  have m1 := Rat.mul_le_mul_of_nonneg_right l1 (Rat.le_of_lt hb)
  have m2 := Rat.mul_le_mul_of_nonneg_right l2 (Rat.le_of_lt hb)
  rw [Rat.div_mul_cancel (by grind), e] at m1 m2
  generalize hU : (107839786668602559178668060348078522694548577690162289924414440996864 : Nat) = U at *
  have hU0 : 0 < U := by rw [← hU]; decide +kernel
  have hk : ((1073741824 : Nat) : Rat) = 1073741824 := rfl
  rw [hk] at m1 m2
  have hUp : (0 : Rat) < (U : Rat) := by exact_mod_cast hU0
  have n1 : (f : Rat) * (U : Rat) ≤ (s : Rat) := by grind
  have n2 : (s : Rat) < ((f : Rat) + 1) * (U : Rat) := by grind
  have n1' : f * U ≤ s := by exact_mod_cast n1
  have n2' : s < (f + 1) * U := by exact_mod_cast n2
  exact Nat.div_eq_of_lt_le n1' n2'
end Go.Proofs.YtkhhdpndcidmgaaGreat
/- No small fraction is near to the quotient of two numbers: a check by Euclid's steps, and what it shows. No program in sight. -/
namespace Go.Proofs.YtkhhdpndcidmgaaGreat

noncomputable def euS (B T : Nat) (f : Nat) : Nat → Nat → Nat → Nat → Bool :=
  Nat.rec (motive := fun _ => Nat → Nat → Nat → Nat → Bool) (fun _ _ _ _ => false)
    (fun _ ih xa ra xb rb => Bool.rec (motive := fun _ => Bool) (Nat.ble T ra) (ih (Nat.add xb (Nat.mul (Nat.div rb ra) xa)) (Nat.mod rb ra) xa ra) (Nat.ble (Nat.add xb (Nat.mul (Nat.div rb ra) xa)) B)) f
theorem euS_s {B T f xa ra xb rb : Nat} : euS B T (f + 1) xa ra xb rb = Bool.rec (motive := fun _ => Bool) (Nat.ble T ra) (euS B T f (xb + rb / ra * xa) (rb % ra) xa ra) (Nat.ble (xb + rb / ra * xa) B) := rfl
structure EuI (s c : Int) (xa ra xb rb : Nat) (ya yb g : Int) : Prop where
  g1 : g = 1 ∨ g = -1
  d : (xa : Int) * yb - (xb : Int) * ya = g
  a : (xa : Int) * s - ya * c = g * (ra : Int)
  b : (xb : Int) * s - yb * c = -(g * (rb : Int))
theorem EuI.step {s c : Int} {xa ra xb rb : Nat} {ya yb g : Int} (h : EuI s c xa ra xb rb ya yb g) : EuI s c (xb + rb / ra * xa) (rb % ra) xa ra (yb + ((rb / ra : Nat) : Int) * ya) ya (-g) := by
  obtain ⟨g1, d, a, b⟩ := h
  have hm := Nat.div_add_mod rb ra
  have e : ((rb % ra : Nat) : Int) = (rb : Int) - ((rb / ra : Nat) : Int) * (ra : Int) := by
    have : ((ra * (rb / ra) : Nat) : Int) = (ra : Int) * ((rb / ra : Nat) : Int) := Int.natCast_mul _ _
    have h2 : ((rb / ra : Nat) : Int) * (ra : Int) = (ra : Int) * ((rb / ra : Nat) : Int) := Int.mul_comm _ _
    omega
  generalize rb / ra = q at *
  refine ⟨by omega, ?_, ?_, ?_⟩
  · push_cast; grind
  · rw [e]; push_cast; grind
  · grind
theorem EuI.far {s c : Int} {xa ra xb rb B T : Nat} {ya yb g : Int} (h : EuI s c xb rb xa ra yb ya g) (hB : B + 1 ≤ xb) (ha : T ≤ ra) {x y : Int} (x0 : 0 ≤ x) (x1 : x ≤ B) (hxy : x ≠ 0 ∨ y ≠ 0) :
    (T : Int) ≤ x * s - y * c ∨ x * s - y * c ≤ -(T : Int) := by
  obtain ⟨g1, d, b, a⟩ := h
  obtain ⟨p, hp⟩ : ∃ p, g * (x * ya - y * xa) = p := ⟨_, rfl⟩
  obtain ⟨r, hr⟩ : ∃ r, g * (y * xb - x * yb) = r := ⟨_, rfl⟩
  have gg : g * g = 1 := by rcases g1 with rfl | rfl <;> rfl
  have ex : x = p * xb + r * xa := by
    have : p * xb + r * xa = g * (x * ((xb : Int) * ya - (xa : Int) * yb)) := by rw [← hp, ← hr]; grind
    rw [this, d]; grind
  have ey : y = p * yb + r * ya := by
    have : p * yb + r * ya = g * (y * ((xb : Int) * ya - (xa : Int) * yb)) := by rw [← hp, ← hr]; grind
    rw [this, d]; grind
  have eD : x * s - y * c = g * (p * (rb : Int) - r * (ra : Int)) := by
    have : x * s - y * c = p * ((xb : Int) * s - yb * c) + r * ((xa : Int) * s - ya * c) := by rw [ex, ey]; grind
    rw [this, a, b]; grind
  have xa0 : (0 : Int) ≤ (xa : Int) := by omega
  have xb0 : (0 : Int) ≤ (xb : Int) := by omega
  have hT : (T : Int) ≤ p * (rb : Int) - r * (ra : Int) ∨ p * (rb : Int) - r * (ra : Int) ≤ -(T : Int) := by
    rcases Int.lt_trichotomy p 0 with hp0 | hp0 | hp0
    · rcases Int.lt_trichotomy r 0 with hr0 | hr0 | hr0
      · have m1 := Int.mul_le_mul_of_nonneg_right (show p ≤ -1 by omega) xb0
        have m2 := Int.mul_le_mul_of_nonneg_right (show r ≤ -1 by omega) xa0
        omega
      · subst hr0
        have m1 := Int.mul_le_mul_of_nonneg_right (show p ≤ -1 by omega) xb0
        omega
      · have m1 := Int.mul_le_mul_of_nonneg_right (show p ≤ -1 by omega) (show (0 : Int) ≤ (rb : Int) by omega)
        have m2 := Int.mul_le_mul_of_nonneg_right (show 1 ≤ r by omega) (show (0 : Int) ≤ (ra : Int) by omega)
        right; omega
    · subst hp0
      rcases Int.lt_trichotomy r 0 with hr0 | hr0 | hr0
      · have m2 := Int.mul_le_mul_of_nonneg_right (show r ≤ -1 by omega) (show (0 : Int) ≤ (ra : Int) by omega)
        left; omega
      · subst hr0
        simp at ex ey
        omega
      · have m2 := Int.mul_le_mul_of_nonneg_right (show 1 ≤ r by omega) (show (0 : Int) ≤ (ra : Int) by omega)
        right; omega
    · rcases Int.lt_trichotomy r 0 with hr0 | hr0 | hr0
      · have m1 := Int.mul_nonneg (show 0 ≤ p by omega) (show (0 : Int) ≤ (rb : Int) by omega)
        have m2 := Int.mul_le_mul_of_nonneg_right (show r ≤ -1 by omega) (show (0 : Int) ≤ (ra : Int) by omega)
        left; omega
      · subst hr0
        have m1 := Int.mul_le_mul_of_nonneg_right (show 1 ≤ p by omega) xb0
        omega
      · have m1 := Int.mul_le_mul_of_nonneg_right (show 1 ≤ p by omega) xb0
        have m2 := Int.mul_le_mul_of_nonneg_right (show 1 ≤ r by omega) xa0
        omega
  rcases g1 with rfl | rfl <;> omega
theorem brec_and {b c : Bool} (h : (Bool.rec (motive := fun _ => Bool) false c b : Bool) = true) : b = true ∧ c = true := by
  cases b
  · cases h
  · exact ⟨rfl, h⟩
theorem euS_ok {s c : Int} {B T : Nat} : ∀ (f : Nat) {xa ra xb rb : Nat} {ya yb g : Int}, EuI s c xa ra xb rb ya yb g → euS B T f xa ra xb rb = true →
    ∀ x y : Int, 0 ≤ x → x ≤ B → (x ≠ 0 ∨ y ≠ 0) → (T : Int) ≤ x * s - y * c ∨ x * s - y * c ≤ -(T : Int)
  | 0, xa, ra, xb, rb, ya, yb, g, _, h => by cases h
  | f + 1, xa, ra, xb, rb, ya, yb, g, hI, h => by
    rw [euS_s] at h
    have hn := hI.step
    cases hb : Nat.ble (xb + rb / ra * xa) B
    · rw [hb] at h
      have hb' : ¬ xb + rb / ra * xa ≤ B := fun hh => by
        have := Nat.ble_eq_true_of_le hh
        rw [hb] at this
        cases this
      exact fun x y x0 x1 hxy => hn.far (by omega) (Nat.le_of_ble_eq_true h) x0 x1 hxy
    · rw [hb] at h
      exact euS_ok f hn h
def FarV (B T s c : Nat) : Prop := ∀ x y : Int, 0 ≤ x → x ≤ B → (x ≠ 0 ∨ y ≠ 0) → (T : Int) ≤ x * (s : Int) - y * (c : Int) ∨ x * (s : Int) - y * (c : Int) ≤ -(T : Int)
theorem far_of {B T f s c : Nat} (h : euS B T f 1 s 0 c = true) : FarV B T s c := euS_ok (s := s) (c := c) f (ya := 0) (yb := 1) (g := 1) ⟨.inl rfl, by simp, by simp, by simp⟩ h
noncomputable def rotF (c1 s1 K B T se ce n : Nat) : Nat → Nat → Bool :=
  Nat.rec (motive := fun _ => Nat → Nat → Bool) (fun s c => Bool.rec (motive := fun _ => Bool) false (Nat.beq c ce) (Nat.beq s se))
    (fun _ ih s c => Bool.rec (motive := fun _ => Bool) false (ih (Nat.div (Nat.add (Nat.mul s c1) (Nat.mul c s1)) K) (Nat.div (Nat.sub (Nat.mul c c1) (Nat.mul s s1)) K)) (euS B T 60 1 s 0 c)) n
section
variable {c1 s1 K B T : Nat}
theorem rotF_ok {se ce : Nat} : ∀ (n s c : Nat), rotF c1 s1 K B T se ce n s c = true → ∀ a, rotV c1 s1 K a = (s, c) → rotV c1 s1 K (a + n) = (se, ce) ∧ ∀ r, a ≤ r → r < a + n → FarV B T (rotV c1 s1 K r).1 (rotV c1 s1 K r).2
  | 0, s, c, h, a, ha => by
    obtain ⟨h1, h2⟩ := brec_and h
    rw [Nat.eq_of_beq_eq_true h1, Nat.eq_of_beq_eq_true h2] at ha
    exact ⟨ha, fun r h3 h4 => by omega⟩
  | n + 1, s, c, h, a, ha => by
    obtain ⟨h1, h3⟩ := brec_and h
    have ha1 : rotV c1 s1 K (a + 1) = (_, _) := rfl
    rw [ha] at ha1
    obtain ⟨e, g⟩ := rotF_ok n _ _ h3 (a + 1) ha1
    refine ⟨by rw [show a + (n + 1) = a + 1 + n by omega]; exact e, fun r h4 h5 => ?_⟩
    by_cases hr : r = a
    · subst hr
      rw [ha]
      exact far_of h1
    · exact g r (by omega) (by omega)
def FarTo (c1 s1 K B T a s c : Nat) : Prop := rotV c1 s1 K a = (s, c) ∧ ∀ r, 1 ≤ r → r < a → FarV B T (rotV c1 s1 K r).1 (rotV c1 s1 K r).2
theorem FarTo.next {a s c : Nat} (h : FarTo c1 s1 K B T a s c) (n se ce : Nat) (hb : rotF c1 s1 K B T se ce n s c = true) {b : Nat} (he : a + n = b) : FarTo c1 s1 K B T b se ce := by
  obtain ⟨e, g⟩ := rotF_ok n s c hb a h.1
  subst he
  refine ⟨e, fun r h1 h2 => ?_⟩
  by_cases h3 : r < a
  · exact h.2 r h1 h3
  · exact g r (by omega) h2
end
end Go.Proofs.YtkhhdpndcidmgaaGreat

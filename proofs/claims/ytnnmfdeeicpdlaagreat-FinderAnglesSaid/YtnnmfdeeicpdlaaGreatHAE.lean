/- Contracts and plain laws, several texts in one: Frame; Region; Plain; TgR; Div -/
import Derived.Test.YtnnmfdeeicpdlaaGreatRows
import Derived.WalkKit
import Derived.ProofKit
import Derived.Lib.SmallJoins
import Derived.OpenShut
import GoSem.Core.Next
import Derived.Test.YtnnmfdeeicpdlaaGreatHAA
import Derived.Test.YtnnmfdeeicpdlaaGreatHAB
import Derived.Test.YtnnmfdeeicpdlaaGreatHAC
/- The step from a law's walk to its row: every argument reads behind the call as it did before; the result is true. -/
namespace Go.Proofs.YtnnmfdeeicpdlaaGreat
open Go.ChangeShapes Go.WideShapes Go.ChangeAt Go.RowKit Go.Joins

theorem ownKnob_none : ownKnob Tryz.prog.godebug = none := by kernel_rfl
theorem laid_out : laidOutB Tryz.prog = true := by kernel_rfl

theorem trodAll_stays {H : Type} {enc : TypeId × Value → H} {P : Program} (hl : laidOutB P = true) {W W' : World} (hb : Below W.heap.size W W') :
    ∀ (ts : List TypeId) (vs : List Value) (ds : List (DataW H)) (ps : List MemPlace), ts.all (fun t => P.readableRec t && decide (t < P.types.size)) = true →
    (∀ x ∈ ps, x.block < W.heap.size) → DataW.TrodAll enc P W 0 (fun _ => true) true ts vs ds ps → DataW.TrodAll enc P W' 0 (fun b => decide (b < W.heap.size)) true ts vs ds ps
  | [], vs, ds, ps, _, _, h => by cases vs <;> cases ds <;> simp_all [DataW.TrodAll]
  | t :: ts, vs, ds, ps, hr, hlt, h => by
    obtain ⟨v, vs', d, ds', p, q, rfl, rfl, rfl, h1, h2⟩ := trodAll_cons h
    simp only [List.all_cons, Bool.and_eq_true, decide_eq_true_eq] at hr
    exact ⟨p, q, Below.trod hl hr.1.1 hr.1.2 h1 hb (fun x hx => hlt x (List.mem_append_left _ hx)),
      trodAll_stays hl hb ts vs' ds' q hr.2 (fun x hx => hlt x (List.mem_append_right _ hx)) h2, rfl⟩

theorem law_post {H : Type} {enc : TypeId × Value → H} {P : Program} {f : Func} {s : ChangeSpec} {W W' : World} {args : Array Value} {ds : List (DataW H)} {before : List MemPlace} {tb : TypeId}
    (hl : laidOutB P = true) (hW : DataW.Whole enc P f.params.toList s.vars false W args.toList ds [] before) (hv : s.vars = [])
    (hs : s.fn H (ds ++ []) = { results := [.lit (.bool true)], args := ds }) (hrt : f.resultTypes = #[tb]) (htb : P.underlying tb = some .bool)
    (hr : f.params.toList.all (fun t => P.readableRec t && decide (t < P.types.size)) = true) (hb : Below W.heap.size W W') :
    s.post enc P f false true false false W args (.bool true) W' := by
  have hlt := hW.lt
  have hW' := hW
  obtain ⟨p, q, hA, hV, rfl, hfz, hnd⟩ := hW'
  rw [hv] at hV
  have hq : q = [] := by simpa [DataW.TrodVars] using hV
  subst hq
  simp only [List.append_nil] at hlt hW
  refine ⟨ds, [], p, [], p, [], hW, ?_, ?_, ?_, hb.frame _, fun h => by cases h⟩
  · rw [hs, hrt]
    exact ⟨[], [], shut_bool htb true, rfl, rfl⟩
  · rw [hs]
    exact trodAll_stays hl hb _ _ _ _ hr hlt hA
  · rw [hs, hv]
    rfl
end Go.Proofs.YtnnmfdeeicpdlaaGreat
/- A region that draws its order, with one 'alloc' that waits for nothing, quiet operations beside it, and a tail behind all of them. No program in sight. -/
namespace Go.Proofs.YtnnmfdeeicpdlaaGreat
open Go.RowKit

def extUpon (P : Program) (w : World) (v : Value) : Result Next → Prop
  | .ok (.value u) w' => w' = w ∧ u = v
  | .ok .skip w' => w' = w ∧ v = undef
  | .ok (.enter f args) w' => w' = w ∧ Calls P f args w (fun e w'' => e = .returned v ∧ ∃ d, w'' = bw w d)
  | _ => False
def extOp (P : Program) (o : Oper) (a : Act) (W : World) (next : Act → Prop) : Prop := ∃ v, (∀ d : Ext, extUpon P (bw W d) v ((execOp a.eval o).run P (bw W d))) ∧ next (a.put o.dst v)
attribute [go_sem] extOp extUpon

section
variable {P : Program} {ops : Array Oper} {md : Region.Mode} {W : World}
end
/-! ### Two allocs -/
section
variable {P : Program} {ops : Array Oper} {md : Region.Mode} {W : World}
end
section
variable {P : Program} {ops : Array Oper} {md : Region.Mode} {W : World}
end
end Go.Proofs.YtnnmfdeeicpdlaaGreat
/- Plain facts on integers: quotients rounded down and up, as Go reckons them. No program in sight. -/
namespace Go.Proofs.YtnnmfdeeicpdlaaGreat
theorem floor_neg {a b : Int} (hb : 1 ≤ b) (h : a.tmod b < 0) : a.tdiv b - 1 = a / b := by
  have h1 := Int.tmod_add_mul_tdiv a b
  have h2 : -b < a.tmod b := by have := Int.lt_tmod_of_pos a (by omega : 0 < b); omega
  symm
  rw [Int.ediv_eq_iff_of_pos (by omega), Int.sub_mul, Int.mul_comm (a.tdiv b) b]
  omega
theorem floor_pos {a b : Int} (hb : 1 ≤ b) (h : 0 ≤ a.tmod b) : a.tdiv b = a / b := by
  have h1 := Int.tmod_add_mul_tdiv a b
  have h2 : a.tmod b < b := Int.tmod_lt_of_pos a (by omega)
  symm
  rw [Int.ediv_eq_iff_of_pos (by omega), Int.mul_comm (a.tdiv b) b]
  omega
theorem ediv_bd {a b : Int} (hb : 1 ≤ b) (L : Int) (h0 : 0 ≤ L) (h1 : -L ≤ a) (h2 : a ≤ L) : -L ≤ a / b ∧ a / b ≤ L := by
  constructor
  · rw [Int.le_ediv_iff_mul_le (by omega)]
    have : L * 1 ≤ L * b := Int.mul_le_mul_of_nonneg_left hb h0
    rw [Int.neg_mul]; omega
  · rcases Int.lt_or_le a 0 with h | h
    · have := Int.ediv_neg_of_neg_of_pos h (show 0 < b by omega); omega
    · have := Int.ediv_le_self b h; omega
theorem tmod_wrap (n : Int) (c : Int) (hc : 1 ≤ c) : (n.tmod c < 0 → n.tmod c + c = n % c) ∧ (0 ≤ n.tmod c → n.tmod c = n % c) := by
  have h1 := Int.tmod_add_mul_tdiv n c
  have h2 := Int.emod_add_mul_ediv n c
  constructor
  · intro h
    have := floor_neg hc h
    rw [← this, Int.mul_sub] at h2; omega
  · intro h
    have := floor_pos hc h
    rw [← this] at h2; omega
theorem tmod_bd (n c : Int) (hc : 1 ≤ c) : -c < n.tmod c ∧ n.tmod c < c := by
  have := Int.lt_tmod_of_pos n (show 0 < c by omega)
  have := Int.tmod_lt_of_pos n (show 0 < c by omega)
  omega
end Go.Proofs.YtnnmfdeeicpdlaaGreat
/- The rotation keeps near to the sine and the cosine. No program in sight. -/
namespace Go.Proofs.YtnnmfdeeicpdlaaGreat

theorem nfl {a K : Nat} (hK : 0 < K) : Nr (((a / K : Nat) : Rat)) ((a : Rat) / (K : Rat)) 1 := by
  have h1 := Nat.div_add_mod a K
  have h2 := Nat.mod_lt a hK
  have hK2 : (0 : Rat) < (K : Rat) := by exact_mod_cast hK
  have e1 : (a : Rat) = (K : Rat) * ((a / K : Nat) : Rat) + ((a % K : Nat) : Rat) := by exact_mod_cast h1.symm
  have e2 : ((a % K : Nat) : Rat) ≤ (K : Rat) := by exact_mod_cast Nat.le_of_lt h2
  have e3 : (0 : Rat) ≤ ((a % K : Nat) : Rat) := by exact_mod_cast Nat.zero_le _
  have e4 : (a : Rat) / (K : Rat) = ((a / K : Nat) : Rat) + ((a % K : Nat) : Rat) / (K : Rat) := by rw [e1]; grind
  have e5 : (0 : Rat) ≤ ((a % K : Nat) : Rat) / (K : Rat) := by rw [Rat.div_def]; exact rmul0 e3 (Rat.le_of_lt (Rat.inv_pos.2 hK2))
  have e6 : ((a % K : Nat) : Rat) / (K : Rat) ≤ 1 := by
    refine Rat.le_of_mul_le_mul_right (c := (K : Rat)) ?_ hK2
    rw [Rat.div_mul_cancel (by grind)]
    grind
  rw [e4]
  constructor <;> grind
theorem xi_in {n : Nat} (h : n ≤ 2700001) : 0 ≤ xi n ∧ xi n ≤ 4 / 5 := by
  have h1 : (piN : Rat) * 3437000 ≤ (piD : Rat) := by exact_mod_cast (show piN * 3437000 ≤ piD by decide +kernel)
  have hd : (0 : Rat) < (piD : Rat) := by exact_mod_cast (show 0 < piD by decide +kernel)
  have h2 : (0 : Rat) ≤ (piN : Rat) := by exact_mod_cast Nat.zero_le _
  have q0 : (0 : Rat) ≤ (piN : Rat) / (piD : Rat) := by rw [Rat.div_def]; exact rmul0 h2 (Rat.le_of_lt (Rat.inv_pos.2 hd))
  have q1 : (piN : Rat) / (piD : Rat) ≤ 1 / 3437000 := by
    refine Rat.le_of_mul_le_mul_right (c := (piD : Rat)) ?_ hd
    rw [Rat.div_mul_cancel (by grind)]
    grind
  have hn : (n : Rat) ≤ 2700001 := by exact_mod_cast h
  have hn0 : (0 : Rat) ≤ (n : Rat) := by exact_mod_cast Nat.zero_le _
  unfold xi
  refine ⟨rmul0 hn0 q0, ?_⟩
  have := rmul hn0 hn q0 q1
  grind
theorem xi_one : 0 ≤ xi 1 ∧ xi 1 ≤ 1 / 3437000 := by
  have h1 : (piN : Rat) * 3437000 ≤ (piD : Rat) := by exact_mod_cast (show piN * 3437000 ≤ piD by decide +kernel)
  have hd : (0 : Rat) < (piD : Rat) := by exact_mod_cast (show 0 < piD by decide +kernel)
  refine ⟨(xi_in (by decide)).1, ?_⟩
  unfold xi
  refine Rat.le_of_mul_le_mul_right (c := (piD : Rat)) ?_ hd
  have : ((1 : Nat) : Rat) * ((piN : Rat) / (piD : Rat)) * (piD : Rat) = (piN : Rat) := by
    rw [Rat.mul_assoc, Rat.div_mul_cancel (by grind)]
    simp
  rw [this]
  grind
theorem sq_in {x : Rat} (h : 0 ≤ x ∧ x ≤ 4 / 5) : 0 ≤ x * x ∧ x * x ≤ 16 / 25 := by
  refine ⟨rmul0 h.1 h.1, ?_⟩
  have := rmul h.1 h.2 h.1 h.2
  grind
theorem cos_in {n : Nat} (h : n ≤ 2700001) : 17 / 25 ≤ cosT n ∧ cosT n ≤ 1 := by
  have hq := sq_in (xi_in h)
  obtain ⟨a, b⟩ := tay_in hq.1 (by grind) (m := 14) (d := 1) (by decide)
  unfold cosT
  constructor <;> grind
theorem sin_in {n : Nat} (h : n ≤ 2700001) : 0 ≤ sinT n ∧ sinT n ≤ xi n := by
  have hx := xi_in h
  have hq := sq_in hx
  obtain ⟨a, b⟩ := tay_in hq.1 (by grind) (m := 14) (d := 2) (by decide)
  unfold sinT
  generalize tay (xi n * xi n) 2 14 = t at *
  have h1 := rmul0 hx.1 (show 0 ≤ 1 - t by grind)
  have h2 := rmul0 hx.1 a
  constructor <;> grind
def k96 : Rat := 79228162514264337593543950336
theorem one_ab : (evI lisS 1 * 79228162514264337593543950336 - 23046538269650701392778 * (facW : Int)).natAbs ≤ facW ∧ (evI lisC 1 * 79228162514264337593543950336 - 79228162514260985610427347966 * (facW : Int)).natAbs ≤ facW := by decide +kernel
theorem one_near : Nr (23046538269650701392778 / k96) (sinT 1) (1 / k96) ∧ Nr (79228162514260985610427347966 / k96) (cosT 1) (1 / k96) := by
  have h2 := lisS_ok 1
  have h3 := lisC_ok 1
  have hW := facW_rat
  have hk : (0 : Rat) < k96 := by decide +kernel
  have hM : (facW : Rat) ≤ 1 / k96 * ((facW : Rat) * k96) := by
    have : 1 / k96 * ((facW : Rat) * k96) = (facW : Rat) := by grind
    rw [this]; exact Rat.le_refl
  have hp : (0 : Rat) < (facW : Rat) * k96 := Rat.mul_pos hW hk
  constructor
  · refine (nr_of_int (W := (facW : Rat) * k96) (x := evI lisS 1 * 79228162514264337593543950336 - 23046538269650701392778 * (facW : Int)) hp ?_ one_ab.1 hM).symm
    push_cast at h2 ⊢
    rw [← h2]
    unfold k96
    grind
  · refine (nr_of_int (W := (facW : Rat) * k96) (x := evI lisC 1 * 79228162514264337593543950336 - 79228162514260985610427347966 * (facW : Int)) hp ?_ one_ab.2 hM).symm
    push_cast at h3 ⊢
    rw [← h3]
    unfold k96
    grind
theorem rot_step {K s c s1 c1 : Nat} {k S C S1 C1 e ep S' C' : Rat} (hK : 0 < K) (hk : k = (K : Rat)) (hs : Nr ((s : Rat) / k) S e) (hc : Nr ((c : Rat) / k) C e)
    (hs1 : Nr ((s1 : Rat) / k) S1 (1 / k)) (hc1 : Nr ((c1 : Rat) / k) C1 (1 / k)) (SS : S ≤ 4 / 5) (C0 : 17 / 25 ≤ C) (CC : C ≤ 1)
    (a0 : 0 ≤ S1) (a1 : S1 ≤ 1 / 3437000) (b0 : 17 / 25 ≤ C1) (b1 : C1 ≤ 1) (he : e ≤ 1 / 100) (hk1 : 1 / k ≤ 1 / 100)
    (hS' : Nr S' (S * C1 + C * S1) ep) (hC' : Nr C' (C * C1 - S * S1) ep) :
    Nr (((s * c1 + c * s1) / K : Nat) / k) S' (e + e / 3437000 + 4 / k + ep) ∧ Nr (((c * c1 - s * s1) / K : Nat) / k) C' (e + e / 3437000 + 4 / k + ep) := by
  have hk0 : (0 : Rat) < k := by rw [hk]; exact_mod_cast hK
  have hi : 0 < 1 / k := by rw [Rat.div_def, Rat.one_mul]; exact Rat.inv_pos.2 hk0
  have e0 := hs.pos
  have nn : ∀ a : Nat, (0 : Rat) ≤ (a : Rat) / k := fun a => by
    rw [Rat.div_def]; exact rmul0 (by exact_mod_cast Nat.zero_le _) (Rat.le_of_lt (Rat.inv_pos.2 hk0))
  have s0 := nn s
  have c0 := nn c
  have s10 := nn s1
  have sm : (s : Rat) / k ≤ 1 := by obtain ⟨h1, h2⟩ := hs; grind
  have cm : (c : Rat) / k ≤ 2 := by obtain ⟨h1, h2⟩ := hc; grind
  have cl : 1 / 2 ≤ (c : Rat) / k := by obtain ⟨h1, h2⟩ := hc; grind
  have c1l : 1 / 2 ≤ (c1 : Rat) / k := by obtain ⟨h1, h2⟩ := hc1; grind
  have s1m : (s1 : Rat) / k ≤ 1 / 50 := by obtain ⟨h1, h2⟩ := hs1; grind
  -- products
  have p1 := hs.mul hc1 s0 sm (show 0 ≤ C1 by grind) b1
  have p2 := hc.mul hs1 c0 cm a0 a1
  have p3 := hc.mul hc1 c0 cm (show 0 ≤ C1 by grind) b1
  have p4 := hs.mul hs1 s0 sm a0 a1
  have q1 := (p1.add p2)
  have q2 := (p3.sub p4)
  have fin : ∀ {x : Nat} {A B E : Rat}, (x : Rat) / k / k = A → Nr A B E → Nr (((x / K : Nat) : Rat) / k) B (1 / k + E) := fun {x A B E} h1 h2 => by
    have h3 := nfl (a := x) hK
    rw [← hk] at h3
    have h4 := h3.mulc (c := 1 / k) (m := 1 / k) (Rat.le_of_lt hi) (by grind) (by grind)
    have h5 : Nr (((x / K : Nat) : Rat) / k) A (1 / k) := by
      rw [← h1]
      have e1 : 1 / k * ((x / K : Nat) : Rat) = ((x / K : Nat) : Rat) / k := by grind
      have e2 : 1 / k * ((x : Rat) / k) = (x : Rat) / k / k := by grind
      rw [e1, e2] at h4
      exact h4.le (by grind)
    exact h5.trans h2
  constructor
  · have := (fin (x := s * c1 + c * s1) (by push_cast; grind) q1).trans hS'.symm
    refine this.le ?_
    grind
  · have hle : s * s1 ≤ c * c1 := by
      have h1 := rmul s0 sm s10 s1m
      have h2 := rmul (show (0 : Rat) ≤ 1 / 2 by grind) cl (show (0 : Rat) ≤ 1 / 2 by grind) c1l
      have h3 : (s : Rat) / k * ((s1 : Rat) / k) ≤ (c : Rat) / k * ((c1 : Rat) / k) := by grind
      have h4 := Rat.mul_le_mul_of_nonneg_right h3 (Rat.le_of_lt (Rat.mul_pos hk0 hk0))
      have h5 : (s : Rat) * (s1 : Rat) ≤ (c : Rat) * (c1 : Rat) := by
        have x1 : (s : Rat) / k * ((s1 : Rat) / k) * (k * k) = (s : Rat) * (s1 : Rat) := by grind
        have x2 : (c : Rat) / k * ((c1 : Rat) / k) * (k * k) = (c : Rat) * (c1 : Rat) := by grind
        rw [x1, x2] at h4; exact h4
      exact_mod_cast h5
    have hsub : ((c * c1 - s * s1 : Nat) : Rat) = (c : Rat) * c1 - (s : Rat) * s1 := by
      have h1 : c * c1 - s * s1 + s * s1 = c * c1 := Nat.sub_add_cancel hle
      have h2 : ((c * c1 - s * s1 : Nat) : Rat) + (s : Rat) * s1 = (c : Rat) * c1 := by exact_mod_cast h1
      grind
    have := (fin (x := c * c1 - s * s1) (by rw [hsub]; grind) q2).trans hC'.symm
    refine this.le ?_
    grind
theorem tay_zero : ∀ {m d : Nat}, tay 0 d m = 0
  | 0, _ => rfl
  | m + 1, d => by
    simp only [tay]
    rw [Rat.div_def, Rat.zero_mul, Rat.zero_mul]
theorem sin_zero : sinT 0 = 0 := by unfold sinT xi; grind
theorem cos_zero : cosT 0 = 1 := by
  have : xi 0 * xi 0 = 0 := by unfold xi; grind
  unfold cosT
  rw [this, tay_zero]
  grind
theorem rotN_succ (r : Nat) : rotN (r + 1) = (((rotN r).1 * 79228162514260985610427347966 + (rotN r).2 * 23046538269650701392778) / 79228162514264337593543950336, ((rotN r).2 * 79228162514260985610427347966 - (rotN r).1 * 23046538269650701392778) / 79228162514264337593543950336) := rfl
theorem rot_near : ∀ {r : Nat}, r ≤ 2700000 → Nr (((rotN r).1 : Rat) / k96) (sinT r) (64 * (r : Rat) / k96) ∧ Nr (((rotN r).2 : Rat) / k96) (cosT r) (64 * (r : Rat) / k96)
  | 0, _ => by
    rw [sin_zero, cos_zero, show rotN 0 = (0, 79228162514264337593543950336) from rfl]
    have hk : k96 / k96 = 1 := by unfold k96; grind
    constructor
    · constructor <;> grind
    · have : ((79228162514264337593543950336 : Nat) : Rat) / k96 = 1 := hk
      rw [this]
      constructor <;> grind
  | r + 1, h => by
    obtain ⟨h1, h2⟩ := rot_near (r := r) (by omega)
    obtain ⟨h3, h4⟩ := one_near
    have hx := xi_in (n := r) (by omega)
    have hs := sin_in (n := r) (by omega)
    have hc := cos_in (n := r) (by omega)
    have hs1 := sin_in (n := 1) (by omega)
    have hc1 := cos_in (n := 1) (by omega)
    have hx1 := xi_one
    have hr : (r : Rat) ≤ 2700000 := by exact_mod_cast (show r ≤ 2700000 by omega)
    have hr0 : (0 : Rat) ≤ (r : Rat) := by exact_mod_cast Nat.zero_le r
    have hki : 1 / k96 * k96 = 1 := by unfold k96; grind
    have hk : 0 < 1 / k96 ∧ 1 / k96 ≤ 1 / 10000000000000000000000000000 := by
      unfold k96
      constructor <;> grind
    have he : eps ≤ 1 / k96 := by unfold eps k96; grind
    have g1 : 64 * (r : Rat) / k96 ≤ 1 / 100 := by
      have := rmul hr0 hr (Rat.le_of_lt hk.1) hk.2
      grind
    have st := rot_step (K := 79228162514264337593543950336) (k := k96) (s1 := 23046538269650701392778) (c1 := 79228162514260985610427347966) (by decide) rfl h1 h2 h3 h4 (by grind) hc.1 hc.2 hs1.1 (by grind) hc1.1 hc1.2 g1 (by grind) (sin_step (n := r) (by omega)) (cos_step (n := r) (by omega))
    rw [rotN_succ]
    have e1 : 64 * (r : Rat) / k96 + 64 * (r : Rat) / k96 / 3437000 + 4 / k96 + eps ≤ 64 * ((r + 1 : Nat) : Rat) / k96 := by
      have h5 := rmul hr0 hr (Rat.le_of_lt hk.1) (show 1 / k96 ≤ 1 / k96 by exact Rat.le_refl)
      push_cast
      grind
    exact ⟨st.1.le e1, st.2.le e1⟩
def Bt (f : Nat) (v : Rat) : Prop := (f : Rat) / 1073741824 + 1000 / 4611686018427387904 ≤ v ∧ v ≤ ((f : Rat) + 1) / 1073741824 - 1000 / 4611686018427387904
theorem gap_ok {G M x : Nat} (hG : 2 * G < M) (h : gapV G (2 * G) M x) : x / M * M + G ≤ x ∧ x + G ≤ (x / M + 1) * M := by
  unfold gapV at h
  have hM : 0 < M := by omega
  have h1 := Nat.div_add_mod x M
  have h2 := Nat.mod_lt x hM
  rw [Nat.add_mod, Nat.mod_eq_of_lt (show G < M by omega)] at h
  rw [Nat.add_mul, Nat.one_mul, Nat.mul_comm]
  generalize x % M = y at *
  generalize M * (x / M) = z at *
  have h4 : G ≤ y ∧ y + G ≤ M := by
    by_cases h3 : y + G < M
    · rw [Nat.mod_eq_of_lt h3] at h; omega
    · rw [Nat.mod_eq_sub_mod (by omega), Nat.mod_eq_of_lt (by omega)] at h; omega
  omega
theorem bt_of {x r : Nat} {v : Rat} (hr : r ≤ 2700000) (h : gapN x) (hn : Nr ((x : Rat) / k96) v (64 * (r : Rat) / k96)) : Bt (x / 73786976294838206464) v := by
  obtain ⟨h1, h2⟩ := gap_ok (G := 17592186044416) (M := 73786976294838206464) (by decide) h
  generalize x / 73786976294838206464 = f at *
  have e1 : (f : Rat) * 73786976294838206464 + 17592186044416 ≤ (x : Rat) := by exact_mod_cast h1
  have e2 : (x : Rat) + 17592186044416 ≤ ((f : Rat) + 1) * 73786976294838206464 := by exact_mod_cast h2
  have hr2 : (r : Rat) ≤ 2700000 := by exact_mod_cast hr
  have hk : (0 : Rat) ≤ 1 / k96 := by unfold k96; grind
  obtain ⟨h3, h4⟩ := hn
  have e3 := Rat.mul_le_mul_of_nonneg_right e1 hk
  have e4 := Rat.mul_le_mul_of_nonneg_right e2 hk
  have e5 := Rat.mul_le_mul_of_nonneg_right hr2 hk
  unfold Bt
  unfold k96 at *
  constructor <;> grind
end Go.Proofs.YtnnmfdeeicpdlaaGreat
/- The quotient of two words by one, as math/bits reckons it: the plain law (Knuth's digits, of any base B). No program in sight. -/
namespace Go.Proofs.YtnnmfdeeicpdlaaGreat

structure DI (B U y1 y0 c q r : Nat) : Prop where
  eq : q * y1 + r = U
  up : U * B + c < (q + 1) * (y1 * B + y0)
  qb : q ≤ B + 1
theorem di_init {B U y1 y0 c : Nat} (h1 : B ≤ 2 * y1) (h0 : y0 < B) (hU : U < y1 * B + y0) (hc : c < B) : DI B U y1 y0 c (U / y1) (U % y1) ∧ U % y1 < y1 := by
  have hlt : U % y1 < y1 := Nat.mod_lt _ (by omega)
  have he : U / y1 * y1 + U % y1 = U := by rw [Nat.mul_comm]; exact Nat.div_add_mod U y1
  refine ⟨⟨he, ?_, ?_⟩, hlt⟩
  · have h2 : U + 1 ≤ (U / y1 + 1) * y1 := by rw [Nat.succ_mul]; omega
    have h3 : (U + 1) * B ≤ (U / y1 + 1) * y1 * B := Nat.mul_le_mul_right _ h2
    have h4 : (U / y1 + 1) * (y1 * B + y0) = (U / y1 + 1) * y1 * B + (U / y1 + 1) * y0 := by rw [Nat.mul_add, Nat.mul_assoc]
    rw [h4]
    rw [Nat.succ_mul] at h3
    generalize (U / y1 + 1) * y1 * B = A at *
    generalize (U / y1 + 1) * y0 = C at *
    generalize U * B = D at *
    omega
  · have e : y1 * (B + 2) = y1 * B + y1 * 2 := Nat.mul_add _ _ _
    have h2 : U < y1 * (B + 2) := by
      rw [e]
      generalize y1 * B = A at *
      omega
    have := Nat.div_lt_of_lt_mul h2
    omega
theorem di_step {B U y1 y0 c q r : Nat} (h : DI B U y1 y0 c q r) (hU : U < y1 * B + y0) (hc : c < B) (hcond : B ≤ q ∨ r * B + c < q * y0) : 0 < q ∧ DI B U y1 y0 c (q - 1) (r + y1) ∧ q - 1 ≤ B := by
  have hq : 0 < q := by
    rcases hcond with h1 | h1
    · omega
    · rcases Nat.eq_zero_or_pos q with e | e
      · rw [e, Nat.zero_mul] at h1; omega
      · exact e
  obtain ⟨p, rfl⟩ : ∃ p, q = p + 1 := ⟨q - 1, by omega⟩
  have he := h.eq
  rw [Nat.succ_mul] at he
  refine ⟨hq, ⟨by rw [Nat.add_sub_cancel]; omega, ?_, by have := h.qb; omega⟩, by have := h.qb; omega⟩
  rw [Nat.add_sub_cancel]
  rcases hcond with h1 | h1
  · have h2 : (U + 1) * B ≤ (y1 * B + y0) * B := Nat.mul_le_mul_right _ hU
    have h3 : B * (y1 * B + y0) ≤ (p + 1) * (y1 * B + y0) := Nat.mul_le_mul_right _ h1
    rw [Nat.succ_mul] at h2
    rw [Nat.mul_comm B] at h3
    generalize (p + 1) * (y1 * B + y0) = A at *
    generalize (y1 * B + y0) * B = C at *
    generalize U * B = D at *
    omega
  · have h4 : (p + 1) * (y1 * B + y0) = (p + 1) * y1 * B + (p + 1) * y0 := by rw [Nat.mul_add, Nat.mul_assoc]
    have h5 : U * B = (p + 1) * y1 * B + r * B := by rw [← Nat.add_mul, h.eq]
    rw [h4, h5]
    generalize (p + 1) * y1 * B = A at *
    generalize (p + 1) * y0 = C at *
    generalize r * B = D at *
    omega
theorem di_done {B U y1 y0 c q r : Nat} (h : DI B U y1 y0 c q r) (hle : q * y0 ≤ r * B + c) : (U * B + c) / (y1 * B + y0) = q ∧ q * (y1 * B + y0) ≤ U * B + c := by
  have h4 : q * (y1 * B + y0) = q * y1 * B + q * y0 := by rw [Nat.mul_add, Nat.mul_assoc]
  have h5 : U * B = q * y1 * B + r * B := by rw [← Nat.add_mul, h.eq]
  have hup := h.up
  have hle2 : q * (y1 * B + y0) ≤ U * B + c := by
    rw [h4, h5]
    generalize q * y1 * B = A at *
    generalize q * y0 = C at *
    generalize r * B = D at *
    omega
  exact ⟨Nat.div_eq_of_lt_le hle2 hup, hle2⟩
theorem di_break {B y0 c q r : Nat} (h0 : y0 < B) (hq : q ≤ B) (hr : B ≤ r) : q * y0 ≤ r * B + c :=
  Nat.le_trans (Nat.mul_le_mul hq (Nat.le_of_lt h0)) (Nat.le_trans (Nat.mul_le_mul_right B hr) (Nat.le_add_right _ _))
theorem two_digits {B U c1 c0 y : Nat} (hy : 0 < y) : ((U * B + c1) * B + c0) / y = (U * B + c1) / y * B + ((U * B + c1) % y * B + c0) / y ∧
    ((U * B + c1) * B + c0) % y = ((U * B + c1) % y * B + c0) % y := by
  have h := Nat.div_add_mod (U * B + c1) y
  generalize U * B + c1 = T at *
  have e : T * B + c0 = y * (T / y * B) + (T % y * B + c0) := by
    have h2 : T * B = y * (T / y) * B + T % y * B := by rw [← Nat.add_mul, h]
    rw [h2, ← Nat.mul_assoc, Nat.add_assoc]
  constructor
  · rw [e, Nat.mul_add_div hy]
  · rw [e, Nat.mul_add_mod]
theorem shifted (M y s : Nat) : (M * 2 ^ s) / (y * 2 ^ s) = M / y ∧ (M * 2 ^ s) % (y * 2 ^ s) / 2 ^ s = M % y := by
  have hp : 0 < 2 ^ s := Nat.pow_pos (by decide)
  constructor
  · exact Nat.mul_div_mul_right M y hp
  · rw [Nat.mul_mod_mul_right, Nat.mul_div_cancel _ hp]
end Go.Proofs.YtnnmfdeeicpdlaaGreat

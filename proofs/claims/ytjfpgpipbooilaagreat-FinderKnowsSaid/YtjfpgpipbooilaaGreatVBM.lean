/- Contracts and plain laws, several texts in one: Rf1; Rf2 -/
import Derived.Test.YtjfpgpipbooilaaGreatProg
import Derived.WalkKit
import Derived.WalkSpells
import Derived.WalkLawsBesides
import Derived.Lib.Hide
import Derived.BigQuiet
import Derived.Deep.RegionWith
import Derived.RangeFuncNested
import Derived.RangeFuncBound
import Derived.RangeFuncCalls
import Derived.RangeFuncLeaves
import Derived.Shelf.Abstract
import Derived.Shelf.RegionOpen
import Derived.OwnWalkIn
import Derived.TacticsInMore
import Derived.LoopNIn
import Derived.LoopIn
import Derived.Test.YtjfpgpipbooilaaGreatVAA
import Derived.Test.YtjfpgpipbooilaaGreatVAB
import Derived.Test.YtjfpgpipbooilaaGreatVAY
import Derived.Test.YtjfpgpipbooilaaGreatVBL
/- Increments at an instant: the functions that pieces hands on. -/
namespace Go.Proofs.YtjfpgpipbooilaaGreat
set_option maxHeartbeats 2000000
open Go.RowKit

theorem inc_around (n : Int) (w : World) (h1 : -1099511627776 ≤ n) (h2 : n ≤ 1099511627776) :
    Calls Tryz.prog 204 #[.int .i64 n] w fun e w' => e = .returned (.agg #[.int .i64 (n - 50), .int .i64 (n + 50)]) ∧ ∃ d, w' = bw w d := by
  refine lay_start ?_
  go_enter Tryz.func204, Tryz.ntmps204
  go_wp2
  exact bodyPost_ret (v := (.agg #[.int .i64 (n - 50), .int .i64 (n + 50)])) (by simp [results, Tryz.results204, go_sem]) rfl ⟨rfl, lay_ex _ _⟩
def insL (A : Int → Int × Int) (ms : Int) : Int := if ms % 3600000 = 0 then (A (ms / 3600000)).1 else linLo (A (ms / 3600000)).1 (A (ms / 3600000 + 1)).1 (ms % 3600000) 3600000
def insH (A : Int → Int × Int) (ms : Int) : Int := if ms % 3600000 = 0 then (A (ms / 3600000)).2 else linHi (A (ms / 3600000)).2 (A (ms / 3600000 + 1)).2 (ms % 3600000) 3600000
structure ArcsOk (A : Int → Int × Int) : Prop where
  lo : ∀ h, -1099511627776 ≤ (A h).1
  hi : ∀ h, (A h).2 ≤ 1099511627776
  le : ∀ h, (A h).1 ≤ (A h).2
theorem inc_instantC (A : Int → Int × Int) (g : Nat) (q : Value) (b : Nat) (ms : Int) (w : World) (hA : ArcsOk A) (h0 : 0 ≤ ms) (h1 : ms ≤ 86400000)
    (eg : ∀ args w, (callFunc g args).run Tryz.prog w = .ok (.enter g args) w)
    (hat : ∀ (L : List (Obj ⊕ Ext)) (h : Int), 0 ≤ h → h ≤ 24 → Calls Tryz.prog g #[.int .i64 h, q] (lay w L) fun e w' => e = .returned (.agg #[.int .i64 ((A h).1), .int .i64 ((A h).2)]) ∧ ∃ d, w' = bw (lay w L) d)
    (hb : b < w.heap.size) (hc : w.cell? ⟨b, 0, none⟩ = some (.func (.func g) #[] #[q])) :
    Calls Tryz.prog 226 #[.int .i64 ms, .pointer (some ⟨b, 0, none⟩)] w fun e w' => e = .returned (.agg #[.int .i64 (insL A ms), .int .i64 (insH A ms)]) ∧ ∃ d, w' = bw w d := by
  have HA := Lib.hid hat
  clear hat
  by_cases hr : ms % 3600000 = 0
  · have e : insL A ms = (A (ms / 3600000)).1 ∧ insH A ms = (A (ms / 3600000)).2 := by unfold insL insH; rw [if_pos hr, if_pos hr]; exact ⟨rfl, rfl⟩
    rw [e.1, e.2]
    have hq : (ms % 3600000 == 0) = true := beq_iff_eq.2 hr
    have b1 : 0 ≤ ms / 3600000 := by omega
    have b2 : ms / 3600000 ≤ 24 := by omega
    clear e hr
    refine lay_start ?_
    go_enter Tryz.func226, Tryz.ntmps226
    go_wp2_with fail
    refine (HA.out _ _ b1 b2).mono ?_
    rintro e w' ⟨rfl, d, rfl⟩
    go_wp2
    exact bodyPost_ret (v := (.agg #[.int .i64 ((A (ms / 3600000)).1), .int .i64 ((A (ms / 3600000)).2)])) (by simp [results, Tryz.results226, go_sem]) rfl ⟨rfl, lay_ex _ _⟩
  · have e : insL A ms = linLo (A (ms / 3600000)).1 (A (ms / 3600000 + 1)).1 (ms % 3600000) 3600000 ∧ insH A ms = linHi (A (ms / 3600000)).2 (A (ms / 3600000 + 1)).2 (ms % 3600000) 3600000 := by unfold insL insH; rw [if_neg hr, if_neg hr]; exact ⟨rfl, rfl⟩
    rw [e.1, e.2]
    have hq : (ms % 3600000 == 0) = false := beq_eq_false_iff_ne.2 hr
    have b1 : 0 ≤ ms / 3600000 := by omega
    have b2 : ms / 3600000 + 1 ≤ 24 := by omega
    have hw1 : IntKind.i64.wrap (ms / 3600000 + 1) = ms / 3600000 + 1 := IntWalk.i64_in _ (by omega)
    have r0 : 0 ≤ ms % 3600000 ∧ ms % 3600000 < 3600000 := by omega
    have LK : LinOk (A (ms / 3600000)).1 (A (ms / 3600000)).2 (A (ms / 3600000 + 1)).1 (A (ms / 3600000 + 1)).2 (ms % 3600000) 3600000 := by
      have := hA.lo (ms / 3600000); have := hA.hi (ms / 3600000); have := hA.le (ms / 3600000)
      have := hA.lo (ms / 3600000 + 1); have := hA.hi (ms / 3600000 + 1); have := hA.le (ms / 3600000 + 1)
      constructor <;> omega
    have HL := Lib.hid (fun W => inc_linear _ _ _ _ _ _ W LK)
    have HA1 := Lib.hid (fun L => HA.out L (ms / 3600000) b1 (by omega))
    have HA2 := Lib.hid (fun L => HA.out L (ms / 3600000 + 1) (by omega) b2)
    clear e hr LK
    refine lay_start ?_
    go_enter Tryz.func226, Tryz.ntmps226
    go_wp2_with fail
    refine region_bw_tail 9 (by kernel_rfl) (by kernel_rfl) ?_
    simp only [List.take_succ_cons, List.take_zero, List.drop_succ_cons, List.drop_zero]
    repeat (go_big_quiet_step ((first | (with_reducible refine bq (HA1.out _) ?_; exact (fun d => lay_join _ _ _ d)) | (with_reducible refine bq (HA2.out _) ?_; exact (fun d => lay_join _ _ _ d)) | (go_at_call 227; with_reducible refine bq (HL.out _) ?_; exact (fun d => lay_join _ _ _ d)))))
    refine wpQuiet_nil ?_
    rintro w' ⟨d, rfl⟩
    rw [lay_bw]
    go_wp2
    exact bodyPost_ret (v := (.agg #[.int .i64 (linLo (A (ms / 3600000)).1 (A (ms / 3600000 + 1)).1 (ms % 3600000) 3600000), .int .i64 (linHi (A (ms / 3600000)).2 (A (ms / 3600000 + 1)).2 (ms % 3600000) 3600000)])) (by simp [results, Tryz.results226, go_sem]) rfl ⟨rfl, lay_ex _ _⟩
end Go.Proofs.YtjfpgpipbooilaaGreat
/- increments.pieces: the iterator's contract. -/
namespace Go.Proofs.YtjfpgpipbooilaaGreat
open Go.RowKit Go.Shelf
attribute [local go_sem] Oper.semAt_some

structure Kept (p : Nat → Prop) (A B : World) : Prop where
  size : A.heap.size ≤ B.heap.size
  same : ∀ k, p k → B.heap[k]? = A.heap[k]?
theorem Kept.refl (p : Nat → Prop) (A : World) : Kept p A A := ⟨Nat.le_refl _, fun _ _ => rfl⟩
theorem Kept.trans {p : Nat → Prop} {A B C : World} (h : Kept p A B) (k : Kept p B C) : Kept p A C := ⟨Nat.le_trans h.size k.size, fun i hi => (k.same i hi).trans (h.same i hi)⟩
theorem Kept.cell {p : Nat → Prop} {A B : World} (h : Kept p A B) {b i : Nat} (hb : p b) : B.cell? ⟨b, i, none⟩ = A.cell? ⟨b, i, none⟩ := by unfold World.cell?; rw [h.same b hb]
theorem Kept.of_below {p : Nat → Prop} {A B : World} (h : Below A.heap.size A B) (hp : ∀ k, p k → k < A.heap.size) : Kept p A B := ⟨h.size, fun k hk => h.block k (hp k hk)⟩
theorem Kept.bw {p : Nat → Prop} {A B : World} (h : Kept p A B) (hp : ∀ k, p k → k < A.heap.size) (d : Ext) : Kept p A (bw B d) :=
  h.trans (Kept.of_below (bw_below B d) fun k hk => Nat.lt_of_lt_of_le (hp k hk) h.size)
theorem Kept.lay {p : Nat → Prop} {A B : World} (h : Kept p A B) (hp : ∀ k, p k → k < A.heap.size) (L : List (Obj ⊕ Ext)) : Kept p A (lay B L) := by
  obtain ⟨d, hd⟩ := lay_ex B L
  rw [hd]; exact h.bw hp d
theorem bw_grown (W : World) (d : Ext) : W.grownBy (bw W d) none := ⟨rfl, rfl, rfl, bw_le W d, fun k hk _ => bw_get W d k hk⟩
def hrs (A : Int → Int × Int) (s : Int) (c : Nat) : List (Int × Int) := (List.range c).map fun i : Nat => A (s + (i : Int))
theorem hrs_succ (A : Int → Int × Int) (s : Int) (c : Nat) : hrs A s (c + 1) = hrs A s c ++ [A (s + c)] := by
  unfold hrs; rw [List.range_succ, List.map_append]; rfl
def nhr (lo hi : Int) : Nat := (cdiv hi 3600000 - (lo / 3600000 + 1)).toNat
def pcs (A : Int → Int × Int) (lo hi : Int) : List (Int × Int) := [(insL A lo, insH A lo), (insL A hi, insH A hi)] ++ hrs A (lo / 3600000 + 1) (nhr lo hi)
theorem pcs_len (A : Int → Int × Int) (lo hi : Int) : (pcs A lo hi).length = 2 + nhr lo hi := by simp [pcs, hrs]; omega
theorem nhr_lt {lo hi : Int} {c : Nat} (h : c < nhr lo hi) : (lo / 3600000 + 1 + c) * 3600000 < hi := by unfold nhr cdiv at h; omega
theorem nhr_ge {lo hi : Int} {c : Nat} (h : nhr lo hi ≤ c) : hi ≤ (lo / 3600000 + 1 + c) * 3600000 := by unfold nhr cdiv at h; omega
set_option maxHeartbeats 4000000 in
set_option maxRecDepth 100000 in
theorem pieces_stops (n : Nat) (hn : 1 ≤ n) (A : Int → Int × Int) (g : Nat) (q : Value) (b1 b2 b3 b4 : Nat) (lo hi : Int) (p : Nat → Prop) (w : World) (hA : ArcsOk A)
    (l0 : 0 ≤ lo) (l1 : lo ≤ 86400000) (h0 : 0 ≤ hi) (h1 : hi ≤ 86400000) (hp : ∀ k, p k → k < w.heap.size) (p1 : p b1) (p2 : p b2) (p3 : p b3) (p4 : p b4)
    (c1 : w.cell? ⟨b1, 0, none⟩ = some (.func (.func 226) #[] #[.pointer (some ⟨b4, 0, none⟩)])) (c2 : w.cell? ⟨b2, 0, none⟩ = some (.int .i64 lo)) (c3 : w.cell? ⟨b3, 0, none⟩ = some (.int .i64 hi))
    (c4 : w.cell? ⟨b4, 0, none⟩ = some (.func (.func g) #[] #[q]))
    (eg : ∀ args w, (callFunc g args).run Tryz.prog w = .ok (.enter g args) w)
    (hat : ∀ W (h : Int), Kept p w W → 0 ≤ h → h ≤ 24 → Calls Tryz.prog g #[.int .i64 h, q] W fun e w' => e = .returned (.agg #[.int .i64 ((A h).1), .int .i64 ((A h).2)]) ∧ ∃ d, w' = bw W d) :
    SeqStopsK Fence.wide n Tryz.prog 228 #[.pointer (some ⟨b1, 0, none⟩), .pointer (some ⟨b2, 0, none⟩), .pointer (some ⟨b3, 0, none⟩), .pointer (some ⟨b4, 0, none⟩)] (fun x : Int × Int => #[(.agg #[.int .i64 (x.1), .int .i64 (x.2)])]) (Kept p)
      (fun ys => ys = pcs A lo hi) (fun _ => True) (pcs A lo hi).length w := by
  intro l J Jx W hW hJ hJx hY hj
  have HI := Lib.hid (fun ms W (hk : Kept p w W) (m0 : 0 ≤ ms) (m1 : ms ≤ 86400000) => inc_instantC A g q b4 ms W hA m0 m1 eg (fun L h a b => hat (lay W L) h (hk.lay hp L) a b) (Nat.lt_of_lt_of_le (hp b4 p4) hk.size) ((hk.cell p4).trans c4))
  have HY := Lib.hid hY
  have HAT := Lib.hid hat
  have K0 : Kept p w W := Kept.of_below hW hp
  have e1 := (K0.cell (i := 0) p1).trans c1
  have e2 := (K0.cell (i := 0) p2).trans c2
  have e3 := (K0.cell (i := 0) p3).trans c3
  have e4 := (K0.cell (i := 0) p4).trans c4
  have eI : ∀ args w, (callFunc 226 args).run Tryz.prog w = .ok (.enter 226 args) w := enters_of Tryz.func226 (by kernel_rfl) rfl
  have HJ := Lib.hid hJ
  have HJ0 := Lib.hid hj
  have HK0 := Lib.hid K0
  clear hat hY hJ hJx hj K0
  refine callsIn_of_wp Tryz.func228 rfl trivial ?_ rfl
  simp only [Tryz.ntmps228, List.size_toArray, List.length_cons, List.length_nil, Nat.reduceAdd, Nat.reduceSub, Array.replicate_succ, Array.replicate_zero, List.push_toArray, List.append_toArray, List.nil_append, List.cons_append]
  gi_wp2_with fail
  refine ⟨trivial, (callsIn_wide.2 (HI.out lo W HK0.out l0 l1)).mono ?_⟩
  rintro e w' ⟨rfl, d, rfl⟩
  have J1 := HJ.out [] W (bw W d) none HJ0.out (bw_grown W d) (fun r e => by cases e)
  have K1 := HK0.out.bw hp d
  generalize bw W d = W1 at *
  clear e1 e2 e3 e4 HJ0 HK0
  obtain ⟨fn, tmps, assign, body, hy, hR⟩ := HY.out [] (insL A lo, insH A lo) W1 J1 (by rw [pcs_len]; simp only [List.length_nil]; omega)
  dsimp only at hy
  have f1 := (K1.cell (i := 0) p1).trans c1
  have f2 := (K1.cell (i := 0) p2).trans c2
  have f3 := (K1.cell (i := 0) p3).trans c3
  have f4 := (K1.cell (i := 0) p4).trans c4
  have HK1 := Lib.hid K1
  have HR1 := Lib.hid hR
  clear K1 J1 hR
  gi_wp2_with fail
  refine HR1.out.mono ?_
  rintro e W2 (⟨rfl, J2, k2⟩ | ⟨rfl, x2⟩)
  · have K2 := HK1.out.trans k2
    clear f1 f2 f3 f4 HK1 HR1 k2 hy
    have f1 := (K2.cell (i := 0) p1).trans c1
    have f3 := (K2.cell (i := 0) p3).trans c3
    have HK2 := Lib.hid K2
    have HJ2 := Lib.hid J2
    clear K2 J2
    gi_wp2_with fail
    refine ⟨trivial, (callsIn_wide.2 (HI.out hi W2 HK2.out h0 h1)).mono ?_⟩
    rintro e w' ⟨rfl, d, rfl⟩
    have J3 := HJ.out _ W2 (bw W2 d) none HJ2.out (bw_grown W2 d) (fun r e => by cases e)
    have K3 := HK2.out.bw hp d
    generalize bw W2 d = W3 at *
    clear f1 f3 HJ2 HK2
    obtain ⟨fn, tmps, assign, body, hy, hR⟩ := HY.out _ (insL A hi, insH A hi) W3 J3 (by rw [pcs_len]; simp only [List.nil_append, List.length_cons, List.length_nil]; omega)
    dsimp only at hy
    have HK3 := Lib.hid K3
    have HR3 := Lib.hid hR
    clear K3 J3 hR
    gi_wp2_with fail
    refine HR3.out.mono ?_
    rintro e W4 (⟨rfl, J4, k4⟩ | ⟨rfl, x4⟩)
    · have K4 := HK3.out.trans k4
      clear HK3 HR3 k4 hy
      have f2 := (K4.cell (i := 0) p2).trans c2
      have HK4 := Lib.hid K4
      have HJ4 := Lib.hid J4
      clear K4 J4
      gi_wp2_with fail
      gi_loopw [6] (fun vh wr => ∃ c : Nat, c ≤ nhr lo hi ∧ vh = .int .i64 (lo / 3600000 + 1 + c) ∧ J ([(insL A lo, insH A lo), (insL A hi, insH A hi)] ++ hrs A (lo / 3600000 + 1) c) wr ∧ Kept p w wr) (fun vh _ => nhr lo hi - (intOf vh - (lo / 3600000 + 1)).toNat)
      case atStart => exact ⟨0, Nat.zero_le _, by simp, by simpa [hrs] using HJ4.out, HK4.out⟩
      case round =>
        obtain ⟨c, hc, rfl, J5, K5⟩ := hrel
        have HJ5 := Lib.hid J5
        have HK5 := Lib.hid K5
        have g3 := (K5.cell (i := 0) p3).trans c3
        have g4 := (K5.cell (i := 0) p4).trans c4
        clear J5 K5 f2 HJ4 HK4
        by_cases hlt : c < nhr lo hi
        · have ht := nhr_lt hlt
          gi_wp2_with fail
          refine ⟨trivial, (callsIn_wide.2 (HAT.out wr _ HK5.out (by omega) (by omega))).mono ?_⟩
          rintro e w' ⟨rfl, d, rfl⟩
          have J6 := HJ.out _ wr (bw wr d) none HJ5.out (bw_grown wr d) (fun r e => by cases e)
          have K6 := HK5.out.bw hp d
          generalize bw wr d = W6 at *
          clear g3 g4 HJ5 HK5
          obtain ⟨fn, tmps, assign, body, hy, hR⟩ := HY.out _ (A (lo / 3600000 + 1 + c)) W6 J6 (by rw [pcs_len]; simp [hrs]; omega)
          try dsimp only at hy
          have HK6 := Lib.hid K6
          have HR6 := Lib.hid hR
          clear K6 J6 hR
          gi_wp2_with fail
          refine HR6.out.mono ?_
          rintro e W7 (⟨rfl, J7, k7⟩ | ⟨rfl, x7⟩)
          · have HK7 := Lib.hid (HK6.out.trans k7)
            have HJ7 := Lib.hid J7
            clear HK6 HR6 k7 hy J7
            gi_wp2_with fail
            go_roundw
            case rel => exact ⟨c + 1, by omega, by go_num, by rw [hrs_succ, ← List.append_assoc]; exact HJ7.out, HK7.out⟩
            case measure => simp [intOf]; omega
          · gi_wp2
            refine bodyPost_ret (results_none rfl _ _ _) rfl ?_
            exact ⟨⟨_, rfl⟩, .inr ⟨_, trivial, x7⟩⟩
        · have ht := nhr_ge (Nat.le_of_not_lt hlt)
          have hcn : c = nhr lo hi := by omega
          have HC := Lib.hid hcn
          clear hcn hlt
          have hw : IntKind.i64.wrap ((lo / 3600000 + 1 + (c : Int)) * 3600000) = (lo / 3600000 + 1 + (c : Int)) * 3600000 := IntWalk.i64_in _ (by unfold nhr cdiv at hc; omega)
          have hd : decide ((lo / 3600000 + 1 + (c : Int)) * 3600000 < hi) = false := by simp; omega
          gi_wp2
          go_end0
          exact ⟨⟨_, rfl⟩, .inl ⟨_, rfl, by unfold pcs; rw [← HC.out]; exact HJ5.out⟩⟩
    · gi_wp2
      refine bodyPost_ret (results_none rfl _ _ _) rfl ?_
      exact ⟨⟨_, rfl⟩, .inr ⟨_, trivial, x4⟩⟩
  · gi_wp2
    refine ⟨fun _ h => (by cases h), ?_⟩
    gi_wp2
    refine bodyPost_ret (results_none rfl _ _ _) rfl ?_
    exact ⟨⟨_, rfl⟩, .inr ⟨_, trivial, x2⟩⟩
end Go.Proofs.YtjfpgpipbooilaaGreat

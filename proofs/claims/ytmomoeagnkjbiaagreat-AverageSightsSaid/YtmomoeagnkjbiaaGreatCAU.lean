/- Contracts and plain laws, several texts in one: Dif; Dig; Dih; MixB -/
import Derived.Test.YtmomoeagnkjbiaaGreatProg
import Derived.WalkKit
import Derived.WalkSpells
import Derived.WalkLawsBesides
import Derived.Lib.Hide
import Derived.BigQuiet
import Derived.Test.YtmomoeagnkjbiaaGreatCAA
import Derived.Test.YtmomoeagnkjbiaaGreatCAB
import Derived.Test.YtmomoeagnkjbiaaGreatCAC
import Derived.Test.YtmomoeagnkjbiaaGreatCAT
/- The reference's numbers of digits with a sign: sign, Minus, Plus, Mul. -/
namespace Go.Proofs.YtmomoeagnkjbiaaGreat
open Go.RowKit

/-- The value is a number of digits that is z, of at most k digits. -/
def NmK (w : World) (v : Value) (z : Int) (k : Nat) : Prop := ∃ a c l neg, v = .agg #[.slice a l.length c, .bool neg] ∧ Sl w (.slice a l.length c) l ∧ NumK neg l z ∧ l.length ≤ k
theorem NmK.ext {w w' : World} {v : Value} {z : Int} {k : Nat} (h : NmK w v z k) (hb : Below w.heap.size w w') : NmK w' v z k := by
  obtain ⟨a, c, l, neg, h1, h2, h3, h4⟩ := h
  exact ⟨a, c, l, neg, h1, h2.ext hb, h3, h4⟩
theorem nmK_on {w : World} {v : Value} {z : Int} {k : Nat} {A B : List (Obj ⊕ Ext)} (h : NmK (lay w B) v z k) : NmK (lay w (A ++ B)) v z k := h.ext lay_below
theorem NmK.lay {w : World} {v : Value} {z : Int} {k : Nat} (h : NmK w v z k) (L : List (Obj ⊕ Ext)) : NmK (lay w L) v z k := h.ext (lay_extends w L)
def NmP (w : World) (z : Int) (k : Nat) (e : Ending) (w' : World) : Prop := ∃ v d, e = .returned v ∧ w' = bw w d ∧ NmK (bw w d) v z k
def joinE (e d : Ext) : Ext := ⟨e.blocks ++ d.blocks, d.drawn⟩
/-- A row behind a cell reads on when that cell is written. -/
theorem num_keep {w : World} (A : List (Obj ⊕ Ext)) {e1 d3 : Ext} {o : Obj} (o' : Obj) {T : List (Obj ⊕ Ext)} {v : Value} {l : List Int} (h : Ow (Go.Proofs.YtmomoeagnkjbiaaGreat.lay w (.inr d3 :: .inr e1 :: .inl o :: T)) (Go.Proofs.YtmomoeagnkjbiaaGreat.lay w (.inr e1 :: .inl o :: T)).heap.size v l) :
    Ow (Go.Proofs.YtmomoeagnkjbiaaGreat.lay w (A ++ (.inr d3 :: .inr e1 :: .inl o' :: T))) w.heap.size v l := by
  have h1 : Go.Proofs.YtmomoeagnkjbiaaGreat.lay w (.inr d3 :: .inr e1 :: .inl o :: T) = Go.Proofs.YtmomoeagnkjbiaaGreat.lay w (.inr (joinE e1 d3) :: .inl o :: T) := bw_bw _ _ _
  have h2 : Go.Proofs.YtmomoeagnkjbiaaGreat.lay w (.inr d3 :: .inr e1 :: .inl o' :: T) = Go.Proofs.YtmomoeagnkjbiaaGreat.lay w (.inr (joinE e1 d3) :: .inl o' :: T) := bw_bw _ _ _
  rw [h1] at h
  have hb : (Go.Proofs.YtmomoeagnkjbiaaGreat.lay w T).heap.size < (Go.Proofs.YtmomoeagnkjbiaaGreat.lay w (.inr e1 :: .inl o :: T)).heap.size := Nat.lt_of_lt_of_le (lay_lt w o T) (lay_below (w := w) (A := [.inr e1]) (B := .inl o :: T)).size
  have h3 := ow_swap o' hb h
  rw [← h2] at h3
  exact (ow_on h3).le (lay_extends w _).size
theorem num_keep3 {w : World} (A : List (Obj ⊕ Ext)) {e1 d3 f : Ext} {o : Obj} (o' : Obj) {T : List (Obj ⊕ Ext)} {v : Value} {l : List Int} (h : Ow (Go.Proofs.YtmomoeagnkjbiaaGreat.lay w (.inr d3 :: .inr e1 :: .inr f :: .inl o :: T)) (Go.Proofs.YtmomoeagnkjbiaaGreat.lay w (.inr e1 :: .inr f :: .inl o :: T)).heap.size v l) :
    Ow (Go.Proofs.YtmomoeagnkjbiaaGreat.lay w (A ++ (.inr d3 :: .inr e1 :: .inr f :: .inl o' :: T))) w.heap.size v l := by
  have h1 : ∀ X, Go.Proofs.YtmomoeagnkjbiaaGreat.lay w (.inr d3 :: .inr e1 :: .inr f :: X) = Go.Proofs.YtmomoeagnkjbiaaGreat.lay w (.inr d3 :: .inr (joinE f e1) :: X) := fun X => congrArg (fun W => Go.Proofs.YtmomoeagnkjbiaaGreat.bw W d3) (bw_bw (Go.Proofs.YtmomoeagnkjbiaaGreat.lay w X) f e1)
  have h2 : Go.Proofs.YtmomoeagnkjbiaaGreat.lay w (.inr e1 :: .inr f :: .inl o :: T) = Go.Proofs.YtmomoeagnkjbiaaGreat.lay w (.inr (joinE f e1) :: .inl o :: T) := bw_bw _ _ _
  rw [h1, h2] at h
  have h3 := num_keep [] o' h
  rw [List.nil_append, ← h1] at h3
  exact ow_on h3
/-- The same, the digits in a row of the call's own. -/
def NmKO (w : World) (base : Nat) (v : Value) (z : Int) (k : Nat) : Prop := ∃ a c l neg, v = .agg #[.slice a l.length c, .bool neg] ∧ Ow w base (.slice a l.length c) l ∧ NumK neg l z ∧ l.length ≤ k
theorem NmKO.k {w : World} {base : Nat} {v : Value} {z : Int} {k : Nat} (h : NmKO w base v z k) : NmK w v z k := by
  obtain ⟨a, c, l, neg, h1, h2, h3, h4⟩ := h
  exact ⟨a, c, l, neg, h1, h2.sl, h3, h4⟩
theorem nmKO_on {w : World} {base : Nat} {v : Value} {z : Int} {k : Nat} {A B : List (Obj ⊕ Ext)} (h : NmKO (Go.Proofs.YtmomoeagnkjbiaaGreat.lay w B) base v z k) : NmKO (Go.Proofs.YtmomoeagnkjbiaaGreat.lay w (A ++ B)) base v z k := by
  obtain ⟨a, c, l, neg, h1, h2, h3, h4⟩ := h
  exact ⟨a, c, l, neg, h1, ow_on h2, h3, h4⟩
def NmPO (w : World) (z : Int) (k : Nat) (e : Ending) (w' : World) : Prop := ∃ v d, e = .returned v ∧ w' = bw w d ∧ NmKO (bw w d) w.heap.size v z k
theorem NumK.neg {neg : Bool} {l : List Int} {z : Int} (h : NumK neg l z) : NumK (if l = [] then false else !neg) l (-z) := by
  have h1 := NumK.sign (neg := !neg) h.can
  rwa [show numV (!neg) l = -z by rw [h.val]; unfold numV; cases neg <;> simp] at h1
set_option maxHeartbeats 1000000 in
set_option maxRecDepth 100000 in
theorem dg_sign (a : Option Addr) (c : Nat) (l : List Int) (neg : Bool) (w : World) :
    Calls Tryz.prog 145 #[.agg #[.slice a l.length c, .bool neg]] w fun e w' => e = .returned (.agg #[.slice a l.length c, .bool (if l = [] then false else neg)]) ∧ ∃ d, w' = bw w d := by
  by_cases hl : l = []
  · subst hl
    rw [if_pos rfl]
    refine lay_start ?_
    go_enter Tryz.func145, Tryz.ntmps145
    go_wp2_with fail
    exact bodyPost_ret (v := .agg #[.slice a 0 c, .bool false]) (by simp [results, Tryz.results145, go_sem]) rfl ⟨rfl, lay_ex _ _⟩
  · rw [if_neg hl]
    obtain ⟨n, hn⟩ : ∃ n, l.length = n := ⟨_, rfl⟩
    have hn0 : n ≠ 0 := by rw [← hn]; exact fun h => hl (List.length_eq_zero_iff.1 h)
    rw [hn]
    have t1 : ((n : Int) == 0) = false := beq_eq_false_iff_ne.2 (by omega)
    clear hn hl
    refine lay_start ?_
    go_enter Tryz.func145, Tryz.ntmps145
    go_wp2_with fail
    exact bodyPost_ret (v := .agg #[.slice a n c, .bool neg]) (by simp [results, Tryz.results145, go_sem]) rfl ⟨rfl, lay_ex _ _⟩
set_option maxHeartbeats 1000000 in
set_option maxRecDepth 100000 in
theorem dg_Minus (v : Value) (z : Int) (k : Nat) (w : World) (h : NmK w v z k) :
    Calls Tryz.prog 184 #[v] w (NmP w (-z) k) := by
  obtain ⟨a, c, l, neg, rfl, hs, hk, hl⟩ := h
  have HS := Lib.hid hs
  have HK := Lib.hid (And.intro hk.neg hl)
  have HG := Lib.hid (fun W => dg_sign a c l (!neg) W)
  clear hs hk hl
  generalize (if l = [] then false else !neg) = g at *
  obtain ⟨n, hn⟩ : ∃ n, l.length = n := ⟨_, rfl⟩
  have HN := Lib.hid hn
  rw [hn] at HG HS ⊢
  clear hn
  refine lay_start ?_
  go_enter Tryz.func184, Tryz.ntmps184
  go_wp2_with (go_at_call 145; refine (HG.out _).mono ?_; rintro e w' ⟨rfl, d1, rfl⟩)
  refine bodyPost_ret (v := .agg #[.slice a n c, .bool g]) (by simp [results, Tryz.results184, go_sem]) rfl ?_
  obtain ⟨y, hy⟩ := lay_ex w [.inr d1, .inl (.cells #[.slice a n c, .bool g] 130 (0, 0)), .inl (.cells #[.slice a n c, .bool neg] 130 (0, 0))]
  refine ⟨_, y, rfl, hy, a, c, l, g, by rw [HN.out], ?_, HK.out.1, HK.out.2⟩
  rw [HN.out]
  exact HS.out.bw y
set_option maxHeartbeats 2000000 in
set_option maxRecDepth 100000 in
theorem dg_Mul (v1 v2 : Value) (x y : Int) (k1 k2 : Nat) (w : World) (h1 : NmK w v1 x k1) (h2 : NmK w v2 y k2) (b1 : k1 ≤ 1000) (b2 : k2 ≤ 1000) :
    Calls Tryz.prog 105 #[v1, v2] w (NmPO w (x * y) (k1 + k2)) := by
  obtain ⟨p1, c1, l1, n1, rfl, hs1, hk1, hl1⟩ := h1
  obtain ⟨p2, c2, l2, n2, rfl, hs2, hk2, hl2⟩ := h2
  have HT := Lib.hid (fun L => dg_Times _ _ l1 l2 _ (hs1.lay L) (hs2.lay L) hk1.can.1 hk2.can.1 (by omega) (by omega))
  have HK := Lib.hid (And.intro hk1 (And.intro hk2 (And.intro hl1 hl2)))
  obtain ⟨m1, hm1⟩ : ∃ m, l1.length = m := ⟨_, rfl⟩
  obtain ⟨m2, hm2⟩ : ∃ m, l2.length = m := ⟨_, rfl⟩
  rw [hm1, hm2] at HT
  rw [hm1, hm2] at HK
  rw [hm1, hm2]
  clear hs1 hs2 hk1 hk2 hl1 hl2 hm1 hm2
  refine lay_start ?_
  go_enter Tryz.func105, Tryz.ntmps105
  go_wp2_with fail
  refine region_mixS 12 [(0, 0), (1, 0), (2, 0), (3, 0), (5, 0), (6, 0), (7, 0), (8, 0), (9, 0), (4, 1), (10, 0), (11, 0), (12, 3)] (by kernel_rfl) (by kernel_rfl) (by kernel_rfl) rfl ?_
  repeat (first | (refine wpMS_pure rfl (fun K hK => ?_); go_simp; refine hK _ ?_; clear hK K) | (refine wpMS_quiet rfl (fun K hK => ?_); go_simp; first | (refine hK _ ?_; clear hK K) | (apply Exists.intro; refine ⟨fun _ => ?_, hK _ ?_⟩; (first | fail); clear hK K)))
  refine wpMS_special rfl (fun K hK e1 => ?_)
  rw [lay_bw]
  go_simp
  refine (HT.out _).mono ?_
  rintro e w' ⟨l, v3, d3, ⟨g1, g2, g3⟩, rfl, rfl, hv3⟩
  obtain ⟨A, C, hv, -⟩ := ow_formN hv3
  subst hv
  have HV := Lib.hid hv3
  have HG := Lib.hid (fun W => dg_sign A C l (n1 != n2) W)
  have HF := Lib.hid (NumK.sign (neg := n1 != n2) g1)
  rw [numV_mul HK.out.1 HK.out.2.1 g2] at HF
  have HL : Hid (l.length ≤ k1 + k2) := Lib.hid (by have := HK.out.2.2; omega)
  rw [lay_bw] at HV ⊢
  clear hv3 g1 g2 g3
  generalize (if l = [] then false else n1 != n2) = g at *
  obtain ⟨m, hm⟩ : ∃ m, l.length = m := ⟨_, rfl⟩
  have HM := Lib.hid hm
  rw [hm] at HV HG ⊢
  clear hm
  refine ⟨_, rfl, hK _ _ (lay_in w [.inr d3, .inr e1] _) ?_⟩
  clear hK K
  repeat (first | (refine wpMS_pure rfl (fun K hK => ?_); go_simp; refine hK _ ?_; clear hK K) | (refine wpMS_quiet rfl (fun K hK => ?_); go_simp; first | (refine hK _ ?_; clear hK K) | (apply Exists.intro; refine ⟨fun _ => ?_, hK _ ?_⟩; (first | (go_at_call 145; exact bq (HG.out _) (fun d => ⟨d, rfl⟩))); clear hK K)))
  refine wpMS_store rfl (fun K hK e4 => ?_)
  rw [lay_bw]
  go_simp
  refine hK _ _ ?_
  clear hK K
  refine wpMS_nil (fun e5 => ?_)
  rw [lay_bw]
  go_wp2_with fail
  refine bodyPost_ret (v := .agg #[.slice A m C, .bool g]) (by simp [results, Tryz.results105, go_sem]) rfl ?_
  obtain ⟨y, hy⟩ := lay_ex w [.inr e5, .inr e4, .inr d3, .inr e1, .inl (.cells #[.slice A m C, .bool g] 130 (0, 0)), .inl (.cells #[.slice p2 m2 c2, .bool n2] 130 (0, 0)), .inl (.cells #[.slice p1 m1 c1, .bool n1] 130 (0, 0))]
  refine ⟨_, y, rfl, hy, A, C, l, g, by rw [HM.out], ?_, HF.out, HL.out⟩
  rw [HM.out, ← hy]
  exact num_keep [.inr e5, .inr e4] _ HV.out
set_option maxHeartbeats 2000000 in
set_option maxRecDepth 100000 in
theorem dg_Plus (v1 v2 : Value) (x y : Int) (k1 k2 : Nat) (w : World) (h1 : NmK w v1 x k1) (h2 : NmK w v2 y k2) (b1 : k1 ≤ 1000) (b2 : k2 ≤ 1000) :
    Calls Tryz.prog 104 #[v1, v2] w (NmPO w (x + y) (max k1 k2 + 1)) := by
  obtain ⟨p1, c1, l1, n1, rfl, hs1, hk1, hl1⟩ := h1
  obtain ⟨p2, c2, l2, n2, rfl, hs2, hk2, hl2⟩ := h2
  have HK := Lib.hid (And.intro hk1 (And.intro hk2 (And.intro hl1 hl2)))
  by_cases hn : n1 = n2
  · subst hn
    have HT := Lib.hid (fun L => dg_Sum _ _ l1 l2 _ (hs1.lay L) (hs2.lay L) hk1.can hk2.can (by omega) (by omega))
    obtain ⟨m1, hm1⟩ : ∃ m, l1.length = m := ⟨_, rfl⟩
    obtain ⟨m2, hm2⟩ : ∃ m, l2.length = m := ⟨_, rfl⟩
    rw [hm1, hm2] at HT
    rw [hm1, hm2] at HK
    rw [hm1, hm2]
    have t1 : (n1 == n1) = true := beq_self_eq_true n1
    clear hs1 hs2 hk1 hk2 hl1 hl2 hm1 hm2
    refine lay_start ?_
    go_enter Tryz.func104, Tryz.ntmps104
    go_wp2_with fail
    refine region_mixS 8 [(0, 0), (1, 0), (2, 0), (3, 0), (5, 0), (6, 0), (4, 1), (7, 0), (8, 3)] (by kernel_rfl) (by kernel_rfl) (by kernel_rfl) rfl ?_
    repeat (first | (refine wpMS_pure rfl (fun K hK => ?_); go_simp; refine hK _ ?_; clear hK K) | (refine wpMS_quiet rfl (fun K hK => ?_); go_simp; first | (refine hK _ ?_; clear hK K) | (apply Exists.intro; refine ⟨fun _ => ?_, hK _ ?_⟩; (first | fail); clear hK K)))
    refine wpMS_special rfl (fun K hK e1 => ?_)
    rw [lay_bw]
    go_simp
    refine (HT.out _).mono ?_
    rintro e w' ⟨l, v3, d3, ⟨g1, g2, g3⟩, rfl, rfl, hv3⟩
    obtain ⟨A, C, hv, -⟩ := ow_formN hv3
    subst hv
    have HV := Lib.hid hv3
    have HF := Lib.hid (HK.out.1.plus_same HK.out.2.1 g1 g2)
    have HL : Hid (l.length ≤ max k1 k2 + 1) := Lib.hid (by have := HK.out.2.2; omega)
    rw [lay_bw] at HV ⊢
    clear hv3 g1 g2 g3
    obtain ⟨m, hm⟩ : ∃ m, l.length = m := ⟨_, rfl⟩
    have HM := Lib.hid hm
    rw [hm] at HV ⊢
    clear hm
    refine ⟨_, rfl, hK _ _ (lay_in w [.inr d3, .inr e1] _) ?_⟩
    clear hK K
    repeat (first | (refine wpMS_pure rfl (fun K hK => ?_); go_simp; refine hK _ ?_; clear hK K) | (refine wpMS_quiet rfl (fun K hK => ?_); go_simp; first | (refine hK _ ?_; clear hK K) | (apply Exists.intro; refine ⟨fun _ => ?_, hK _ ?_⟩; (first | fail); clear hK K)))
    refine wpMS_store rfl (fun K hK e4 => ?_)
    rw [lay_bw]
    go_simp
    refine hK _ _ ?_
    clear hK K
    refine wpMS_nil (fun e5 => ?_)
    rw [lay_bw]
    go_wp2_with fail
    refine bodyPost_ret (v := .agg #[.slice A m C, .bool n1]) (by simp [results, Tryz.results104, go_sem]) rfl ?_
    obtain ⟨y, hy⟩ := lay_ex w [.inr e5, .inr e4, .inr d3, .inr e1, .inl (.cells #[.slice A m C, .bool n1] 130 (0, 0)), .inl (.cells #[.slice p2 m2 c2, .bool n1] 130 (0, 0)), .inl (.cells #[.slice p1 m1 c1, .bool n1] 130 (0, 0))]
    refine ⟨_, y, rfl, hy, A, C, l, n1, by rw [HM.out], ?_, HF.out, HL.out⟩
    rw [HM.out, ← hy]
    exact num_keep [.inr e5, .inr e4] _ HV.out
  · have t1 : (n1 == n2) = false := beq_eq_false_iff_ne.2 hn
    have HO := Lib.hid (fun L => dg_Order _ _ l1 l2 _ (hs1.lay L) (hs2.lay L) hk1.can hk2.can)
    have HN := Lib.hid hn
    by_cases hv : valD l2 ≤ valD l1
    · have HT := Lib.hid (fun L => dg_Less _ _ l1 l2 _ (hs1.lay L) (hs2.lay L) hk1.can hk2.can (by omega) hv)
      obtain ⟨O, hO⟩ : ∃ O, ordI (valD l1) (valD l2) = O := ⟨_, rfl⟩
      have hO1 : O ≥ 0 := by
        rw [← hO]
        unfold ordI
        rw [if_neg (by omega)]
        split <;> decide
      rw [hO] at HO
      clear hO
      obtain ⟨m1, hm1⟩ : ∃ m, l1.length = m := ⟨_, rfl⟩
      obtain ⟨m2, hm2⟩ : ∃ m, l2.length = m := ⟨_, rfl⟩
      rw [hm1, hm2] at HO
      rw [hm1, hm2] at HT
      rw [hm1, hm2] at HK
      rw [hm1, hm2]
      clear hs1 hs2 hk1 hk2 hl1 hl2 hm1 hm2 hv hn
      refine lay_start ?_
      go_enter Tryz.func104, Tryz.ntmps104
      go_wp2_with (go_at_call 144; refine (HO.out _).mono ?_; rintro e w' ⟨rfl, dO, rfl⟩)
      refine region_mixS 9 [(0, 0), (1, 0), (2, 0), (3, 0), (5, 0), (6, 0), (4, 1), (7, 0), (8, 0), (9, 3)] (by kernel_rfl) (by kernel_rfl) (by kernel_rfl) rfl ?_
      repeat (first | (refine wpMS_pure rfl (fun K hK => ?_); go_simp; refine hK _ ?_; clear hK K) | (refine wpMS_quiet rfl (fun K hK => ?_); go_simp; first | (refine hK _ ?_; clear hK K) | (apply Exists.intro; refine ⟨fun _ => ?_, hK _ ?_⟩; (first | fail); clear hK K)))
      refine wpMS_special rfl (fun K hK e1 => ?_)
      rw [lay_bw]
      go_simp
      refine (HT.out _).mono ?_
      rintro e w' ⟨l, v3, d3, ⟨g1, g2, g3⟩, rfl, rfl, hv3⟩
      obtain ⟨A, C, hv, -⟩ := ow_formN hv3
      subst hv
      have HV := Lib.hid hv3
      have HG := Lib.hid (fun W => dg_sign A C l n1 W)
      have HF := Lib.hid (NumK.sign (neg := n1) g1)
      rw [(numV_less HN.out HK.out.1 HK.out.2.1 g2)] at HF
      have HL : Hid (l.length ≤ max k1 k2 + 1) := Lib.hid (by have := HK.out.2.2; omega)
      rw [lay_bw] at HV ⊢
      clear hv3 g1 g2 g3
      generalize (if l = [] then false else n1) = g at *
      obtain ⟨m, hm⟩ : ∃ m, l.length = m := ⟨_, rfl⟩
      have HM := Lib.hid hm
      rw [hm] at HV HG ⊢
      clear hm
      refine ⟨_, rfl, hK _ _ (lay_in w [.inr d3, .inr e1] _) ?_⟩
      clear hK K
      repeat (first | (refine wpMS_pure rfl (fun K hK => ?_); go_simp; refine hK _ ?_; clear hK K) | (refine wpMS_quiet rfl (fun K hK => ?_); go_simp; first | (refine hK _ ?_; clear hK K) | (apply Exists.intro; refine ⟨fun _ => ?_, hK _ ?_⟩; (first | (go_at_call 145; exact bq (HG.out _) (fun d => ⟨d, rfl⟩))); clear hK K)))
      refine wpMS_store rfl (fun K hK e4 => ?_)
      rw [lay_bw]
      go_simp
      refine hK _ _ ?_
      clear hK K
      refine wpMS_nil (fun e5 => ?_)
      rw [lay_bw]
      go_wp2_with fail
      refine bodyPost_ret (v := .agg #[.slice A m C, .bool g]) (by simp [results, Tryz.results104, go_sem]) rfl ?_
      obtain ⟨y, hy⟩ := lay_ex w [.inr e5, .inr e4, .inr d3, .inr e1, .inr dO, .inl (.cells #[.slice A m C, .bool g] 130 (0, 0)), .inl (.cells #[.slice p2 m2 c2, .bool n2] 130 (0, 0)), .inl (.cells #[.slice p1 m1 c1, .bool n1] 130 (0, 0))]
      refine ⟨_, y, rfl, hy, A, C, l, g, by rw [HM.out], ?_, HF.out, HL.out⟩
      rw [HM.out, ← hy]
      exact num_keep3 [.inr e5, .inr e4] _ HV.out
    · have HT := Lib.hid (fun L => dg_Less _ _ l2 l1 _ (hs2.lay L) (hs1.lay L) hk2.can hk1.can (by omega) (by omega))
      rw [ord_lt (show valD l1 < valD l2 by omega)] at HO
      obtain ⟨m1, hm1⟩ : ∃ m, l1.length = m := ⟨_, rfl⟩
      obtain ⟨m2, hm2⟩ : ∃ m, l2.length = m := ⟨_, rfl⟩
      rw [hm1, hm2] at HO
      rw [hm1, hm2] at HT
      rw [hm1, hm2] at HK
      rw [hm1, hm2]
      clear hs1 hs2 hk1 hk2 hl1 hl2 hm1 hm2 hv hn
      refine lay_start ?_
      go_enter Tryz.func104, Tryz.ntmps104
      go_wp2_with (go_at_call 144; refine (HO.out _).mono ?_; rintro e w' ⟨rfl, dO, rfl⟩)
      refine region_mixS 9 [(0, 0), (1, 0), (2, 0), (3, 0), (5, 0), (6, 0), (4, 1), (7, 0), (8, 0), (9, 3)] (by kernel_rfl) (by kernel_rfl) (by kernel_rfl) rfl ?_
      repeat (first | (refine wpMS_pure rfl (fun K hK => ?_); go_simp; refine hK _ ?_; clear hK K) | (refine wpMS_quiet rfl (fun K hK => ?_); go_simp; first | (refine hK _ ?_; clear hK K) | (apply Exists.intro; refine ⟨fun _ => ?_, hK _ ?_⟩; (first | fail); clear hK K)))
      refine wpMS_special rfl (fun K hK e1 => ?_)
      rw [lay_bw]
      go_simp
      refine (HT.out _).mono ?_
      rintro e w' ⟨l, v3, d3, ⟨g1, g2, g3⟩, rfl, rfl, hv3⟩
      obtain ⟨A, C, hv, -⟩ := ow_formN hv3
      subst hv
      have HV := Lib.hid hv3
      have HG := Lib.hid (fun W => dg_sign A C l n2 W)
      have HF := Lib.hid (NumK.sign (neg := n2) g1)
      rw [((numV_less (Ne.symm HN.out) HK.out.2.1 HK.out.1 g2).trans (Int.add_comm _ _))] at HF
      have HL : Hid (l.length ≤ max k1 k2 + 1) := Lib.hid (by have := HK.out.2.2; omega)
      rw [lay_bw] at HV ⊢
      clear hv3 g1 g2 g3
      generalize (if l = [] then false else n2) = g at *
      obtain ⟨m, hm⟩ : ∃ m, l.length = m := ⟨_, rfl⟩
      have HM := Lib.hid hm
      rw [hm] at HV HG ⊢
      clear hm
      refine ⟨_, rfl, hK _ _ (lay_in w [.inr d3, .inr e1] _) ?_⟩
      clear hK K
      repeat (first | (refine wpMS_pure rfl (fun K hK => ?_); go_simp; refine hK _ ?_; clear hK K) | (refine wpMS_quiet rfl (fun K hK => ?_); go_simp; first | (refine hK _ ?_; clear hK K) | (apply Exists.intro; refine ⟨fun _ => ?_, hK _ ?_⟩; (first | (go_at_call 145; exact bq (HG.out _) (fun d => ⟨d, rfl⟩))); clear hK K)))
      refine wpMS_store rfl (fun K hK e4 => ?_)
      rw [lay_bw]
      go_simp
      refine hK _ _ ?_
      clear hK K
      refine wpMS_nil (fun e5 => ?_)
      rw [lay_bw]
      go_wp2_with fail
      refine bodyPost_ret (v := .agg #[.slice A m C, .bool g]) (by simp [results, Tryz.results104, go_sem]) rfl ?_
      obtain ⟨y, hy⟩ := lay_ex w [.inr e5, .inr e4, .inr d3, .inr e1, .inr dO, .inl (.cells #[.slice A m C, .bool g] 130 (0, 0)), .inl (.cells #[.slice p2 m2 c2, .bool n2] 130 (0, 0)), .inl (.cells #[.slice p1 m1 c1, .bool n1] 130 (0, 0))]
      refine ⟨_, y, rfl, hy, A, C, l, g, by rw [HM.out], ?_, HF.out, HL.out⟩
      rw [HM.out, ← hy]
      exact num_keep3 [.inr e5, .inr e4] _ HV.out
end Go.Proofs.YtmomoeagnkjbiaaGreat
/- The reference's numbers of digits: OfInt, Down. -/
namespace Go.Proofs.YtmomoeagnkjbiaaGreat
open Go.RowKit

theorem can_pow {l : List Int} {k : Nat} (h : Can l) (hv : valD l < dB ^ k) : l.length ≤ k := by
  rcases Nat.lt_or_ge k l.length with h1 | h1
  · have h2 := h.low (by rintro rfl; simp at h1)
    have h3 := dB_pow_le (a := k) (b := l.length - 1) (by omega)
    omega
  · exact h1
theorem size_swap {w : World} {T : List (Obj ⊕ Ext)} (o o' : Obj) : (lay w (.inl o :: T)).heap.size = (lay w (.inl o' :: T)).heap.size := by
  show (World.alloc _ o).heap.size = (World.alloc _ o').heap.size
  rw [World.size_alloc, World.size_alloc]
theorem ow_swap2 {w : World} {T : List (Obj ⊕ Ext)} {o1 o2 : Obj} (o1' o2' : Obj) {e : Ext} {base : Nat} {v : Value} {l : List Int} (hb : (Go.Proofs.YtmomoeagnkjbiaaGreat.lay w (.inl o2 :: T)).heap.size < base)
    (h : Ow (Go.Proofs.YtmomoeagnkjbiaaGreat.lay w (.inr e :: .inl o1 :: .inl o2 :: T)) base v l) : Ow (Go.Proofs.YtmomoeagnkjbiaaGreat.lay w (.inr e :: .inl o1' :: .inl o2' :: T)) base v l := by
  have hb2 : (Go.Proofs.YtmomoeagnkjbiaaGreat.lay w T).heap.size + 1 < base := by
    have : (Go.Proofs.YtmomoeagnkjbiaaGreat.lay w (.inl o2 :: T)).heap.size = (Go.Proofs.YtmomoeagnkjbiaaGreat.lay w T).heap.size + 1 := World.size_alloc _ _
    omega
  refine ⟨⟨h.1.1, h.1.2.imp id fun ⟨g, cap, cur, h1, h2, h3, h4⟩ => ⟨g, cap, cur, h1, h2, ?_, h4⟩⟩, h.2⟩
  rw [← h3]
  show (((Go.Proofs.YtmomoeagnkjbiaaGreat.lay w T).heap.push o2').push o1' ++ e.blocks)[g]? = (((Go.Proofs.YtmomoeagnkjbiaaGreat.lay w T).heap.push o2).push o1 ++ e.blocks)[g]?
  rw [Array.getElem?_append, Array.getElem?_append, Array.size_push, Array.size_push, Array.size_push, Array.size_push]
  rw [if_neg (by omega), if_neg (by omega)]
theorem dB3 : dB ^ 3 = 19342813113834066795298816 := by decide
theorem OfI.room {z m : Int} {i : Nat} {out : List Int} (h : OfI z i out m) (hz : -9223372036854775808 ≤ z ∧ z ≤ 9223372036854775807) : m.natAbs ≤ z.natAbs ∧ (m ≠ 0 → i ≤ 2) := by
  have h1 := (valD_bd h.dg).1
  have h2 := h.val
  have h3 := dB_pow_pos i
  have h4 : 1 * (m.natAbs : Int) ≤ dB ^ i * (m.natAbs : Int) := Int.mul_le_mul_of_nonneg_right h3 (by omega)
  refine ⟨by omega, fun hm => ?_⟩
  have h5 : dB ^ i * 1 ≤ dB ^ i * (m.natAbs : Int) := Int.mul_le_mul_of_nonneg_left (by omega) (Int.le_of_lt h3)
  rcases Nat.lt_or_ge 2 i with h6 | h6
  · have h7 := dB_pow_le (a := 3) (b := i) h6
    rw [dB3] at h7
    omega
  · exact h6
theorem OfI.len3 {z : Int} {i : Nat} {out : List Int} (h : OfI z i out 0) (hz : -9223372036854775808 ≤ z ∧ z ≤ 9223372036854775807) : out.length ≤ 3 := by
  refine can_pow (h.can rfl) ?_
  have h2 := h.val
  rw [dB3]
  simp at h2
  omega
theorem Ow.form0 {w : World} {base : Nat} {v : Value} {l : List Int} (h : Ow w base v l) : ∃ a n cap, v = .slice a n cap := by obtain ⟨a, c, e⟩ := h.form; exact ⟨a, _, c, e⟩
theorem Ow.base {w : World} {b b' : Nat} {v : Value} {l : List Int} (h : Ow w b v l) (e : b = b') : Ow w b' v l := e ▸ h
set_option maxHeartbeats 2000000 in
set_option maxRecDepth 100000 in
theorem dg_OfInt (z : Int) (w : World) (hz : -9223372036854775808 ≤ z ∧ z ≤ 9223372036854775807) :
    Calls Tryz.prog 148 #[.int .i64 z] w (NmPO w z 3) := by
  obtain ⟨g, hg⟩ : ∃ g, decide (z < 0) = g := ⟨_, rfl⟩
  have HST := Lib.hid (OfI.start z)
  have HDN := Lib.hid (fun i out (h : OfI z i out 0) => h.done)
  rw [hg] at HDN
  have HZ := Lib.hid hz
  clear hz
  refine lay_start ?_
  go_enter Tryz.func148, Tryz.ntmps148
  go_wp2_with fail
  go_loopw [0] (fun v0 wr => ∃ (i : Nat) (m : Int) (A : Option Addr) (n c : Nat) (out : List Int) (dd : Ext), v0 = .int .i64 m ∧ wr = lay w [.inr dd, .inl (.cells #[.slice A n c, .bool g] 130 (0, 0)), .inl (.cells #[.slice none 0 0, .bool false] 130 (0, 0))] ∧ Ow (lay w [.inr dd, .inl (.cells #[.slice A n c, .bool g] 130 (0, 0)), .inl (.cells #[.slice none 0 0, .bool false] 130 (0, 0))]) (lay w [.inl (.cells #[.slice A n c, .bool g] 130 (0, 0)), .inl (.cells #[.slice none 0 0, .bool false] 130 (0, 0))]).heap.size (.slice A n c) out ∧ OfI z i out m) (fun v0 _ => (intOf v0).natAbs)
  case atStart => exact ⟨0, z, none, 0, 0, [], noExt _, rfl, (bw_noExt _).symm, Ow.nil _ _, HST.out⟩
  case round =>
    obtain ⟨i, m, A, n, c, out, dd, rfl, rfl, hO, hI⟩ := hrel
    have HO := Lib.hid (And.intro hO hI)
    have hrm := hI.room HZ.out
    have hzz := HZ.out
    clear hO hI
    by_cases hm0 : m = 0
    · subst hm0
      have HD := Lib.hid (HDN.out i out HO.out.2)
      have HL := Lib.hid (HO.out.2.len3 HZ.out)
      obtain ⟨n', c', he⟩ := HO.out.1.form
      have hn : n = out.length := by cases he; rfl
      have HN := Lib.hid hn
      clear hrm hzz he hn
      go_wp2_with fail
      refine bodyPost_ret (v := .agg #[.slice A n c, .bool g]) (by simp [results, Tryz.results148, go_sem]) rfl ?_
      obtain ⟨y, hy⟩ := lay_ex w [.inr dd, .inl (.cells #[.slice A n c, .bool g] 130 (0, 0)), .inl (.cells #[.slice A n c, .bool g] 130 (0, 0))]
      refine ⟨_, y, rfl, hy, A, c, out, g, by rw [HN.out], ?_, HD.out, HL.out⟩
      rw [← hy, ← HN.out]
      exact (ow_swap2 (.cells #[.slice A n c, .bool g] 130 (0, 0)) (.cells #[.slice A n c, .bool g] 130 (0, 0)) (lay_lt w _ _) HO.out.1).le (lay_extends w _).size
    · have hi2 := hrm.2 hm0
      have hmz := hrm.1
      have t1 : (m == 0) = false := beq_eq_false_iff_ne.2 hm0
      have t2 : (m != 0) = true := bne_iff_ne.2 hm0
      have ha := tmod_abs m
      have hb := tdiv_abs m
      rw [dB_eq] at ha hb
      obtain ⟨D, hD⟩ : ∃ D, m.tmod 268435456 = D := ⟨_, rfl⟩
      obtain ⟨E, hE⟩ : ∃ E, m.tdiv 268435456 = E := ⟨_, rfl⟩
      rw [hD] at ha
      rw [hE] at hb
      have kD : IntKind.i64.wrap D = D := IntWalk.i64_in _ (by omega)
      have kE : IntKind.i64.wrap E = E := IntWalk.i64_in _ (by omega)
      have hlen : out.length ≤ 1000000000 := by rw [HO.out.2.len]; omega
      have HEM : Hid (E.natAbs < m.natAbs) := Lib.hid (by omega)
      by_cases hlt : D < 0
      · obtain ⟨M, hM⟩ : ∃ M, -D = M := ⟨_, rfl⟩
        have kM : IntKind.i64.wrap M = M := IntWalk.i64_in _ (by omega)
        have lw : (Lit.int .i64 M).wf = true := lit_b (by omega)
        have HS := Lib.hid (HO.out.2.step hm0 (d := M) (m := E) (by rw [dB_eq]; omega) (by rw [dB_eq]; exact hb))
        clear ha hb hrm hzz hi2 hmz
        go_wp2_with (first | (at_builtin; refine push_int rfl _ _ rfl (lay w [.inl (.cells #[.slice A n c, .bool g] 130 (0, 0)), .inl (.cells #[.slice none 0 0, .bool false] 130 (0, 0))]) _ (M) 3 _ _ _ ?_ (ow_on (A := [_]) HO.out.1) ?_ rfl rfl hlen lw ?_; exact lay_below (A := [_, _]); exact lay_get w _ 0 _ rfl; intro v' d' hv'; obtain ⟨va, vn, vc, hve⟩ := hv'.form0; subst hve))
        rw [lay_bw] at hv'
        have hsw := (ow_swap (.cells #[.slice va vn vc, .bool g] 130 (0, 0)) (lay_lt w _ _) hv').base (size_swap _ (.cells #[.slice va vn vc, .bool g] 130 (0, 0)))
        have HSW := Lib.hid hsw
        clear hsw hv'
        go_roundw
        case rel => exact ⟨i + 1, E, va, vn, vc, out ++ [M], d', rfl, rfl, HSW.out, HS.out⟩
        case measure => have := HEM.out; simp [intOf]; omega
      · have lw : (Lit.int .i64 D).wf = true := lit_b (by omega)
        have HS := Lib.hid (HO.out.2.step hm0 (d := D) (m := E) (by rw [dB_eq]; omega) (by rw [dB_eq]; exact hb))
        clear ha hb hrm hzz hi2 hmz
        go_wp2_with (first | (at_builtin; refine push_int rfl _ _ rfl (lay w [.inl (.cells #[.slice A n c, .bool g] 130 (0, 0)), .inl (.cells #[.slice none 0 0, .bool false] 130 (0, 0))]) _ (D) 3 _ _ _ ?_ (ow_on (A := [_]) HO.out.1) ?_ rfl rfl hlen lw ?_; exact lay_below (A := [_, _]); exact lay_get w _ 0 _ rfl; intro v' d' hv'; obtain ⟨va, vn, vc, hve⟩ := hv'.form0; subst hve))
        rw [lay_bw] at hv'
        have hsw := (ow_swap (.cells #[.slice va vn vc, .bool g] 130 (0, 0)) (lay_lt w _ _) hv').base (size_swap _ (.cells #[.slice va vn vc, .bool g] 130 (0, 0)))
        have HSW := Lib.hid hsw
        clear hsw hv'
        go_roundw
        case rel => exact ⟨i + 1, E, va, vn, vc, out ++ [D], d', rfl, rfl, HSW.out, HS.out⟩
        case measure => have := HEM.out; simp [intOf]; omega
end Go.Proofs.YtmomoeagnkjbiaaGreat
/- The reference's numbers of digits: Down. -/
namespace Go.Proofs.YtmomoeagnkjbiaaGreat
open Go.RowKit

theorem numK_pos {l : List Int} {z : Int} (h : Can l) (hv : valD l = z) : NumK false l z := ⟨h, by rw [← hv]; rfl, fun e => by cases e⟩
theorem can_one : Can [1] := by have := Can.snoc (l := []) (d := 1) Dg.nil (by decide) (by decide); simpa using this
set_option maxHeartbeats 4000000 in
set_option maxRecDepth 100000 in
theorem dg_Down (v1 v2 : Value) (x y : Int) (k1 k2 : Nat) (w : World) (h1 : NmK w v1 x k1) (h2 : NmK w v2 y k2) (hy : 0 < y) (b1 : k1 ≤ 1000) (b2 : k2 ≤ 1000) :
    Calls Tryz.prog 108 #[v1, v2] w (NmPO w (x / y) (k1 + 2)) := by
  obtain ⟨p1, c1, l1, n1, rfl, hs1, hk1, hl1⟩ := h1
  obtain ⟨p2, c2, l2, n2, rfl, hs2, hk2, hl2⟩ := h2
  have hn2 : n2 = false := by rw [hk2.neg_iff]; exact decide_eq_false (by omega)
  subst hn2
  have hv2 : valD l2 = y := by rw [hk2.abs]; omega
  have HV1 := Lib.hid hk1.abs
  have HT := Lib.hid (fun L => dg_Over _ _ l1 l2 _ (hs1.lay L) (hs2.lay L) hk1.can.1 hk2.can (by rw [hv2]; exact hy) (by omega) (by omega))
  unfold OvP at HT
  rw [hv2] at HT
  clear hv2
  obtain ⟨m1, hm1⟩ : ∃ m, l1.length = m := ⟨_, rfl⟩
  obtain ⟨m2, hm2⟩ : ∃ m, l2.length = m := ⟨_, rfl⟩
  rw [hm1, hm2] at HT
  rw [hm1] at hl1
  rw [hm1, hm2]
  have HNG := Lib.hid hk1.neg_iff
  clear hs1 hs2 hk2 hl2 hm1 hm2
  refine lay_start ?_
  go_enter Tryz.func108, Tryz.ntmps108
  go_wp2_with fail
  refine (HT.out _).mono ?_
  rintro e w' ⟨q, r, vq, vr, d3, rfl, rfl, hq, hr, cq, cr, eq, er, lq, lr⟩
  obtain ⟨Q, cQ, hq0, -⟩ := ow_formN hq
  obtain ⟨R, cR, hr0, -⟩ := ow_formN hr
  subst hq0
  subst hr0
  rw [lay_bw] at hq hr ⊢
  have HQ := Lib.hid hq
  have HR := Lib.hid hr
  clear hq hr HT
  obtain ⟨A, hA⟩ : ∃ A, Q = A := ⟨_, rfl⟩
  obtain ⟨C, hC⟩ : ∃ C, cQ = C := ⟨_, rfl⟩
  rw [hA, hC] at HQ
  rw [hA, hC]
  clear hA hC
  cases n1
  · have hng := HNG.out
    have hx : 0 ≤ x := by
      rcases Int.lt_or_le x 0 with h | h
      · rw [decide_eq_true h] at hng; cases hng
      · exact h
    have hv : valD q = x / y := by rw [eq, HV1.out]; congr 1; omega
    have HF := Lib.hid (numK_pos cq hv)
    have HL : Hid (q.length ≤ k1 + 2) := Lib.hid (by omega)
    obtain ⟨m, hm⟩ : ∃ m, q.length = m := ⟨_, rfl⟩
    have HM := Lib.hid hm
    rw [hm] at HQ ⊢
    obtain ⟨rl, hrl⟩ : ∃ rl, r.length = rl := ⟨_, rfl⟩
    rw [hrl]
    clear hm hrl eq er lq lr cq cr hv hng hx hl1 HR
    go_wp2_with fail
    refine bodyPost_ret (v := .agg #[.slice A m C, .bool false]) (by simp [results, Tryz.results108, go_sem]) rfl ?_
    obtain ⟨y, hy⟩ := lay_ex w [.inr d3, .inl (.cells #[.slice A m C, .bool false] 130 (0, 0)), .inl (.cells #[.slice p2 m2 c2, .bool false] 130 (0, 0)), .inl (.cells #[.slice p1 m1 c1, .bool false] 130 (0, 0))]
    refine ⟨_, y, rfl, hy, A, C, q, false, by rw [HM.out], ?_, HF.out, HL.out⟩
    rw [HM.out, ← hy]
    exact (ow_swap _ (lay_lt w _ _) HQ.out).le (lay_extends w _).size
  · have hng := HNG.out
    have hx : x < 0 := by
      rcases Int.lt_or_le x 0 with h | h
      · exact h
      · rw [decide_eq_false (show ¬ x < 0 by omega)] at hng; cases hng
    have hv1' : valD l1 = -x := by rw [HV1.out]; omega
    rw [hv1'] at eq er
    have hdn := down_neg (-x) hy
    rw [Int.neg_neg, ← eq, ← er] at hdn
    by_cases hr0 : r = []
    · subst hr0
      rw [if_pos (by rfl)] at hdn
      have HG := Lib.hid (fun W => dg_sign A C q true W)
      have hF := NumK.sign (neg := true) cq
      rw [show numV true q = x / y by rw [hdn]; rfl] at hF
      have HF := Lib.hid hF
      have HL : Hid (q.length ≤ k1 + 2) := Lib.hid (by omega)
      generalize (if q = [] then false else true) = g at *
      obtain ⟨m, hm⟩ : ∃ m, q.length = m := ⟨_, rfl⟩
      have HM := Lib.hid hm
      rw [hm] at HQ HG ⊢
      clear hm eq er lq lr cq cr hv1' hng hx hl1 HR hdn hF
      go_wp2_with (go_at_call 145; refine (HG.out _).mono ?_; rintro e w' ⟨rfl, d4, rfl⟩)
      refine bodyPost_ret (v := .agg #[.slice A m C, .bool g]) (by simp [results, Tryz.results108, go_sem]) rfl ?_
      obtain ⟨y, hy⟩ := lay_ex w [.inr d4, .inr d3, .inl (.cells #[.slice A m C, .bool g] 130 (0, 0)), .inl (.cells #[.slice p2 m2 c2, .bool false] 130 (0, 0)), .inl (.cells #[.slice p1 m1 c1, .bool true] 130 (0, 0))]
      refine ⟨_, y, rfl, hy, A, C, q, g, by rw [HM.out], ?_, HF.out, HL.out⟩
      rw [HM.out, ← hy]
      exact (ow_on (A := [.inr d4]) (ow_swap _ (lay_lt w _ _) HQ.out)).le (lay_extends w _).size
    · have hr1 : valD r ≠ 0 := fun h => hr0 (cr.zero h)
      rw [if_neg hr1] at hdn
      have HS := Lib.hid (fun W a b (h1 : Sl W a q) (h2 : Sl W b [1]) => dg_Sum a b q [1] W h1 h2 cq can_one (by omega) (by decide))
      have hE : valD q + 1 = -(x / y) := by omega
      have HE := Lib.hid hE
      have HL0 : Hid (q.length ≤ k1) := Lib.hid (by omega)
      obtain ⟨rl, hrl⟩ : ∃ rl, r.length = rl := ⟨_, rfl⟩
      have hrl0 : rl ≠ 0 := by rw [← hrl]; exact fun h => hr0 (List.length_eq_zero_iff.1 h)
      have xr : (0 : Int) < (rl : Int) := by omega
      rw [hrl]
      obtain ⟨m0, hm0⟩ : ∃ m, q.length = m := ⟨_, rfl⟩
      rw [hm0] at HQ ⊢
      have lw1 : (Lit.int .i64 1).wf = true := by decide
      clear hm0 hrl hrl0 eq er lq lr cq cr hv1' hng hx hl1 HR hdn hE hr0 hr1
      go_wp2_with fail
      refine (HS.out (lay w [.inl (.cells #[.int .i64 1] 3 (0, 0)), .inr d3, .inl (.cells #[.slice none 0 0, .bool false] 130 (0, 0)), .inl (.cells #[.slice p2 m2 c2, .bool false] 130 (0, 0)), .inl (.cells #[.slice p1 m1 c1, .bool true] 130 (0, 0))]) _ _ (sl_on (A := [.inl (.cells #[.int .i64 1] 3 (0, 0))]) HQ.out.sl) (ow_one (L := [.inr d3, .inl (.cells #[.slice none 0 0, .bool false] 130 (0, 0)), .inl (.cells #[.slice p2 m2 c2, .bool false] 130 (0, 0)), .inl (.cells #[.slice p1 m1 c1, .bool true] 130 (0, 0))]) lw1).sl).mono ?_
      rintro e w' ⟨l, v5, d5, ⟨g1, g2, g3⟩, rfl, rfl, hv5⟩
      obtain ⟨A5, C5, hv, -⟩ := ow_formN hv5
      subst hv
      rw [lay_bw] at hv5 ⊢
      have HG := Lib.hid (fun W => dg_sign A5 C5 l true W)
      have hF := NumK.sign (neg := true) g1
      rw [show numV true l = x / y by unfold numV; rw [if_pos rfl, g2, valD_one]; have := HE.out; omega] at hF
      have HF := Lib.hid hF
      have HL : Hid (l.length ≤ k1 + 2) := Lib.hid (by have := HL0.out; have h : ([1] : List Int).length = 1 := rfl; rw [h] at g3; omega)
      generalize (if l = [] then false else true) = g at *
      obtain ⟨m, hm⟩ : ∃ m, l.length = m := ⟨_, rfl⟩
      have HM := Lib.hid hm
      rw [hm] at HG ⊢
      have HV := Lib.hid hv5
      rw [hm] at HV
      clear hm g1 g2 g3 hF hv5 HS
      obtain ⟨X, eX⟩ := lay_fold w [.inr d5, .inl (.cells #[.int .i64 1] 3 (0, 0)), .inr d3] [.inl (.cells #[.slice none 0 0, .bool false] 130 (0, 0)), .inl (.cells #[.slice p2 m2 c2, .bool false] 130 (0, 0)), .inl (.cells #[.slice p1 m1 c1, .bool true] 130 (0, 0))]
      change lay w [.inr d5, .inl (.cells #[.int .i64 1] 3 (0, 0)), .inr d3, .inl (.cells #[.slice none 0 0, .bool false] 130 (0, 0)), .inl (.cells #[.slice p2 m2 c2, .bool false] 130 (0, 0)), .inl (.cells #[.slice p1 m1 c1, .bool true] 130 (0, 0))] = _ at eX
      have hV2 := HV.out.le (show (lay w [.inl (.cells #[.slice none 0 0, .bool false] 130 (0, 0)), .inl (.cells #[.slice p2 m2 c2, .bool false] 130 (0, 0)), .inl (.cells #[.slice p1 m1 c1, .bool true] 130 (0, 0))]).heap.size ≤ _ from (lay_below (w := w) (A := [.inl (.cells #[.int .i64 1] 3 (0, 0)), .inr d3]) (B := [.inl (.cells #[.slice none 0 0, .bool false] 130 (0, 0)), .inl (.cells #[.slice p2 m2 c2, .bool false] 130 (0, 0)), .inl (.cells #[.slice p1 m1 c1, .bool true] 130 (0, 0))])).size)
      change Ow (lay w [.inr d5, .inl (.cells #[.int .i64 1] 3 (0, 0)), .inr d3, .inl (.cells #[.slice none 0 0, .bool false] 130 (0, 0)), .inl (.cells #[.slice p2 m2 c2, .bool false] 130 (0, 0)), .inl (.cells #[.slice p1 m1 c1, .bool true] 130 (0, 0))]) _ _ _ at hV2
      rw [eX] at hV2 ⊢
      have HV3 := Lib.hid hV2
      clear HV hV2 eX
      go_wp2_with (go_at_call 145; refine (HG.out _).mono ?_; rintro e w' ⟨rfl, d4, rfl⟩)
      refine bodyPost_ret (v := .agg #[.slice A5 m C5, .bool g]) (by simp [results, Tryz.results108, go_sem]) rfl ?_
      obtain ⟨y, hy⟩ := lay_ex w [.inr d4, .inr X, .inl (.cells #[.slice A5 m C5, .bool g] 130 (0, 0)), .inl (.cells #[.slice p2 m2 c2, .bool false] 130 (0, 0)), .inl (.cells #[.slice p1 m1 c1, .bool true] 130 (0, 0))]
      refine ⟨_, y, rfl, hy, A5, C5, l, g, by rw [HM.out], ?_, HF.out, HL.out⟩
      rw [HM.out, ← hy]
      exact (ow_on (A := [.inr d4]) (ow_swap _ (lay_lt w _ _) HV3.out)).le (lay_extends w _).size
end Go.Proofs.YtmomoeagnkjbiaaGreat
/- Regions that draw their order, by a schedule that may branch in two: where two operations that make memory are ready, each may come first. No program in sight. -/
namespace Go.Proofs.YtmomoeagnkjbiaaGreat
open Go.RowKit

inductive Sch where
  | done : Sch
  | q : Nat → Sch → Sch
  | one : Nat → Sch → Sch
  | two : Nat → Sch → Nat → Sch → Sch
section
variable {P : Program} {md : Region.Mode} {κ : Type} {Cl : κ → World} {l : List Oper} {ops : Array Oper}

def spB (P : Program) (l : List Oper) (ops : Array Oper) (Cl : κ → World) (i : Nat) (X : Act → World → Prop) (a : Act) (w : World) : Prop :=
  ∃ o, l[i]? = some o ∧ ∀ d, (if Region.wanted o (yielded ops a.tmps) then sOp P o a (fun a' w' => (∃ k, w' = Cl k) ∧ X a' w') (bw w d) else (∃ k, bw w d = Cl k) ∧ X (a.put o.dst undef) (bw w d))
def wpMB (P : Program) (l : List Oper) (ops : Array Oper) (Cl : κ → World) (Q : Act → World → Prop) : Sch → Act → World → Prop
  | .done, a, w => ∀ d, Q a (bw w d)
  | .q i s, a, w => ∃ o, l[i]? = some o ∧ (if Region.wanted o (yielded ops a.tmps) then mOp P Cl o a (fun a' => wpMB P l ops Cl Q s a' w) else wpMB P l ops Cl Q s (a.put o.dst undef) w)
  | .one i s, a, w => spB P l ops Cl i (wpMB P l ops Cl Q s) a w
  | .two i s j t, a, w => spB P l ops Cl i (wpMB P l ops Cl Q s) a w ∧ spB P l ops Cl j (wpMB P l ops Cl Q t) a w
def lexMB (md : Region.Mode) (ops : Array Oper) (n g : Nat) : Nat → Sch → Array Bool → Bool
  | 0, .done, listed => Region.seqB md ops g n listed
  | f + 1, .q i s, listed => decide (i < n) && (Region.ready md ops listed).contains i && Region.free md ops listed i && lexMB md ops n g f s (listed.setIfInBounds i true)
  | f + 1, .one i s, listed => decide (i < n) && decide (Region.ready md ops listed = [i]) && lexMB md ops n g f s (listed.setIfInBounds i true)
  | f + 1, .two i s j t, listed => decide (i < n) && decide (j < n) && decide (Region.ready md ops listed = [i, j]) && lexMB md ops n g f s (listed.setIfInBounds i true) && lexMB md ops n g f t (listed.setIfInBounds j true)
  | _, _, _ => false

theorem mixT_of_wpMB {n g : Nat} {Lq : Act → World → Prop} (hCl : ∀ k d, ∃ k', bw (Cl k) d = Cl k') (hl : ∀ j : Nat, l[j]? = ops[j]?) (hsel : Region.noSelect ops = true) (hs : Region.sinkB md ops n = true) (hc : Region.chainB md ops n = true) (hn : n < ops.size) :
    ∀ (f : Nat) (s : Sch) (listed : Array Bool) (a : Act) (w : World), HeadInv md ops n listed → (∃ k, w = Cl k) → lexMB md ops n g f s listed = true →
    wpMB P l ops Cl Lq s a w → mixT P md ops Cl n (fun listed' a' w' => Region.seqB md ops g n listed' = true ∧ Lq a' w') f listed a w
  | 0, .done, listed, a, w, inv, hw, hB, h => fun d => ⟨hB, h d⟩
  | f + 1, .q k s, listed, a, w, inv, hw, hB, h => by
    simp only [lexMB, Bool.and_eq_true, decide_eq_true_eq] at hB
    obtain ⟨⟨⟨hkn, hr⟩, hf⟩, hB'⟩ := hB
    obtain ⟨o, ho, h⟩ := h
    have h0 : ops[k]? = some o := (hl k).symm.trans ho
    have hr' : k ∈ Region.ready md ops listed := by simpa using hr
    have hy : ∃ v, YieldsM P ops Cl o v a ∧ wpMB P l ops Cl Lq s (a.put o.dst v) w := by
      by_cases hw1 : Region.wanted o (yielded ops a.tmps) = true
      · rw [if_pos hw1] at h
        obtain ⟨v, h1, h2⟩ := h
        exact ⟨v, .inl ⟨hw1, h1⟩, h2⟩
      · rw [if_neg hw1] at h
        exact ⟨undef, .inr ⟨by simpa using hw1, rfl⟩, h⟩
    obtain ⟨v, hy, hK⟩ := hy
    exact mixT_first hCl h0 (Region.noSelect_spec hsel) hs hc hn hkn (fun _ _ _ hL => seqB_ready hL.1) f listed a w hw inv (Region.free_spec h0 hf) hr' hy
      (mixT_of_wpMB hCl hl hsel hs hc hn f s _ _ w (inv.set hr' hkn) hw hB' hK)
  | f + 1, .one k s, listed, a, w, inv, hw, hB, h => by
    simp only [lexMB, Bool.and_eq_true, decide_eq_true_eq] at hB
    obtain ⟨⟨hkn, hr⟩, hB'⟩ := hB
    obtain ⟨o, ho, h⟩ := h
    have h0 : ops[k]? = some o := (hl k).symm.trans ho
    have inv' := inv.set (i := k) (by rw [hr]; simp) hkn
    refine ⟨by rw [hr]; simp, fun i hi => ?_⟩
    rw [hr] at hi
    obtain rfl : i = k := by simpa using hi
    refine ⟨hkn, fun d => ?_⟩
    have hd := h d
    rw [oneOp_some h0]
    split
    · rename_i hw1; rw [if_pos hw1] at hd
      exact sOp_mono (fun a' w' hk' => ⟨hk'.1, mixT_of_wpMB hCl hl hsel hs hc hn f s _ _ w' inv' hk'.1 hB' hk'.2⟩) hd
    · rename_i hw1; rw [if_neg hw1] at hd
      exact ⟨hd.1, mixT_of_wpMB hCl hl hsel hs hc hn f s _ _ _ inv' hd.1 hB' hd.2⟩
  | f + 1, .two k s j t, listed, a, w, inv, hw, hB, h => by
    simp only [lexMB, Bool.and_eq_true, decide_eq_true_eq] at hB
    obtain ⟨⟨⟨⟨hkn, hjn⟩, hr⟩, hB1⟩, hB2⟩ := hB
    obtain ⟨⟨o1, ho1, h1⟩, o2, ho2, h2⟩ := h
    have e1 : ops[k]? = some o1 := (hl k).symm.trans ho1
    have e2 : ops[j]? = some o2 := (hl j).symm.trans ho2
    have inv1 := inv.set (i := k) (by rw [hr]; simp) hkn
    have inv2 := inv.set (i := j) (by rw [hr]; simp) hjn
    refine ⟨by rw [hr]; simp, fun i hi => ?_⟩
    rw [hr] at hi
    have hi' : i = k ∨ i = j := by simpa using hi
    rcases hi' with rfl | rfl
    · refine ⟨hkn, fun d => ?_⟩
      have hd := h1 d
      rw [oneOp_some e1]
      split
      · rename_i hw1; rw [if_pos hw1] at hd
        exact sOp_mono (fun a' w' hk' => ⟨hk'.1, mixT_of_wpMB hCl hl hsel hs hc hn f s _ _ w' inv1 hk'.1 hB1 hk'.2⟩) hd
      · rename_i hw1; rw [if_neg hw1] at hd
        exact ⟨hd.1, mixT_of_wpMB hCl hl hsel hs hc hn f s _ _ _ inv1 hd.1 hB1 hd.2⟩
    · refine ⟨hjn, fun d => ?_⟩
      have hd := h2 d
      rw [oneOp_some e2]
      split
      · rename_i hw1; rw [if_pos hw1] at hd
        exact sOp_mono (fun a' w' hk' => ⟨hk'.1, mixT_of_wpMB hCl hl hsel hs hc hn f t _ _ w' inv2 hk'.1 hB2 hk'.2⟩) hd
      · rename_i hw1; rw [if_neg hw1] at hd
        exact ⟨hd.1, mixT_of_wpMB hCl hl hsel hs hc hn f t _ _ _ inv2 hd.1 hB2 hd.2⟩
  | 0, .q _ _, _, _, _, _, _, hB, _ => by simp [lexMB] at hB
  | 0, .one _ _, _, _, _, _, _, hB, _ => by simp [lexMB] at hB
  | 0, .two _ _ _ _, _, _, _, _, _, hB, _ => by simp [lexMB] at hB
  | _ + 1, .done, _, _, _, _, _, hB, _ => by simp [lexMB] at hB

theorem region_mixB {id : Nat} {Q : Exit → Act → World → Prop} {a : Act} {w : World} {l : List Oper} (n : Nat) (s : Sch) (hm : P.follows .mixedOrders = true) (hsel : Region.noSelect l.toArray = true)
    (hs : Region.sinkB .any l.toArray n = true) (hc : Region.chainB .any l.toArray n = true) (hn : n < l.toArray.size)
    (hB : lexMB .any l.toArray n (l.toArray.size - n) n s (Array.replicate l.toArray.size false) = true)
    (h : wpMB P l l.toArray (fun d => bw w d) (fun a w => wpList P l.toArray Q (l.drop n) a w) s a w) : (Code.region id l.toArray true).wp P Q a w := by
  have hdl : (l.drop n).length = l.toArray.size - n := by simp
  have inv0 : HeadInv .any l.toArray n (Array.replicate l.toArray.size false) :=
    ⟨by simp, fun j oj _ hl => (by rw [getD_replicate_false] at hl; cases hl), fun t _ ht => getD_in (by simpa using ht) (getD_replicate_false _ _)⟩
  have H := mixT_of_wpMB (md := .any) (g := l.toArray.size - n) (fun k d => ⟨_, bw_bw w k d⟩) (fun j => by simp) hsel hs hc hn n s _ a w inv0 ⟨noExt w, (bw_noExt w).symm⟩ hB h
  refine wp_region_any hm ?_
  have := mixT_ext (⟨#[], w.drawn + 1⟩ : Ext) H
  rw [← bw_drewExt] at this
  have := mixT_sound (Q' := Q) (g := l.toArray.size - n) (fun listed a' w' hL => by
    have := wpAny_of_seq (md := .any) (Q' := Q) (l.drop n) n listed a' w' (fun j => by simp [List.getElem?_drop]) (by rw [hdl]; exact hL.1) hL.2
    rwa [hdl] at this) _ _ _ _ this
  rw [show n + (l.toArray.size - n) = l.toArray.size by omega] at this
  exact this
theorem wpMB_quiet {Q : Act → World → Prop} {a : Act} {w : World} {i : Nat} {o : Oper} {s : Sch} (ho : l[i]? = some o)
    (h : ∀ K : Act → Prop, (∀ a, wpMB P l ops Cl Q s a w → K a) → if Region.wanted o (yielded ops a.tmps) then mOp P Cl o a K else K (a.put o.dst undef)) : wpMB P l ops Cl Q (.q i s) a w :=
  ⟨o, ho, h _ (fun _ h => h)⟩
theorem spB_of {X : Act → World → Prop} {a : Act} {w : World} {i : Nat} {o : Oper} (ho : l[i]? = some o)
    (h : ∀ (K : Act → World → Prop), (∀ a' w', (∃ k, w' = Cl k) → X a' w' → K a' w') → ∀ d, if Region.wanted o (yielded ops a.tmps) then sOp P o a K (bw w d) else K (a.put o.dst undef) (bw w d)) : spB P l ops Cl i X a w :=
  ⟨o, ho, fun d => by
    have := h (fun a' w' => (∃ k, w' = Cl k) ∧ X a' w') (fun _ _ h1 h2 => ⟨h1, h2⟩) d
    split
    · rename_i hw; rw [if_pos hw] at this; exact this
    · rename_i hw; rw [if_neg hw] at this; exact this⟩
theorem wpMB_one {Q : Act → World → Prop} {a : Act} {w : World} {i : Nat} {s : Sch} (h : spB P l ops Cl i (wpMB P l ops Cl Q s) a w) : wpMB P l ops Cl Q (.one i s) a w := h
theorem wpMB_two {Q : Act → World → Prop} {a : Act} {w : World} {i j : Nat} {s t : Sch} (h1 : spB P l ops Cl i (wpMB P l ops Cl Q s) a w) (h2 : spB P l ops Cl j (wpMB P l ops Cl Q t) a w) : wpMB P l ops Cl Q (.two i s j t) a w := ⟨h1, h2⟩
theorem wpMB_done {Q : Act → World → Prop} {a : Act} {w : World} (h : ∀ d, Q a (bw w d)) : wpMB P l ops Cl Q .done a w := h
end
end Go.Proofs.YtmomoeagnkjbiaaGreat

/- Contracts and plain laws, several texts in one: Dif; FxS; Chn; Sta3 -/
import Derived.Test.YtnnmfdeeicpdlaaGreatProg
import Derived.WalkKit
import Derived.WalkSpells
import Derived.WalkLawsBesides
import Derived.Lib.Hide
import Derived.BigQuiet
import Derived.Test.YtnnmfdeeicpdlaaGreatHAC
import Derived.Test.YtnnmfdeeicpdlaaGreatHAD
import Derived.Test.YtnnmfdeeicpdlaaGreatHAE
import Derived.Test.YtnnmfdeeicpdlaaGreatHAS
import Derived.Test.YtnnmfdeeicpdlaaGreatHAX
import Derived.Test.YtnnmfdeeicpdlaaGreatHAZ
import Derived.Test.YtnnmfdeeicpdlaaGreatHBA
import Derived.Test.YtnnmfdeeicpdlaaGreatHBB
import Derived.Test.YtnnmfdeeicpdlaaGreatHBE
/- The reference's numbers of digits with a sign: sign, Minus, Plus, Mul. -/
namespace Go.Proofs.YtnnmfdeeicpdlaaGreat
set_option maxHeartbeats 2000000
set_option maxRecDepth 100000
open Go.RowKit

def NmK (w : World) (v : Value) (z : Int) (k : Nat) : Prop := ∃ a c l neg, v = .agg #[.slice a l.length c, .bool neg] ∧ Sl w (.slice a l.length c) l ∧ NumK neg l z ∧ l.length ≤ k
theorem NmK.ext {w w' : World} {v : Value} {z : Int} {k : Nat} (h : NmK w v z k) (hb : Below w.heap.size w w') : NmK w' v z k := by
  obtain ⟨a, c, l, neg, h1, h2, h3, h4⟩ := h
  exact ⟨a, c, l, neg, h1, h2.ext hb, h3, h4⟩
theorem nmK_on {w : World} {v : Value} {z : Int} {k : Nat} {A B : List (Obj ⊕ Ext)} (h : NmK (lay w B) v z k) : NmK (lay w (A ++ B)) v z k := h.ext lay_below
theorem NmK.lay {w : World} {v : Value} {z : Int} {k : Nat} (h : NmK w v z k) (L : List (Obj ⊕ Ext)) : NmK (lay w L) v z k := h.ext (lay_extends w L)
def NmP (w : World) (z : Int) (k : Nat) (e : Ending) (w' : World) : Prop := ∃ v d, e = .returned v ∧ w' = bw w d ∧ NmK (bw w d) v z k
def joinE (e d : Ext) : Ext := ⟨e.blocks ++ d.blocks, d.drawn⟩
theorem num_keep {w : World} (A : List (Obj ⊕ Ext)) {e1 d3 : Ext} {o : Obj} (o' : Obj) {T : List (Obj ⊕ Ext)} {v : Value} {l : List Int} (h : Ow (Go.Proofs.YtnnmfdeeicpdlaaGreat.lay w (.inr d3 :: .inr e1 :: .inl o :: T)) (Go.Proofs.YtnnmfdeeicpdlaaGreat.lay w (.inr e1 :: .inl o :: T)).heap.size v l) :
    Ow (Go.Proofs.YtnnmfdeeicpdlaaGreat.lay w (A ++ (.inr d3 :: .inr e1 :: .inl o' :: T))) w.heap.size v l := by
  have h1 : Go.Proofs.YtnnmfdeeicpdlaaGreat.lay w (.inr d3 :: .inr e1 :: .inl o :: T) = Go.Proofs.YtnnmfdeeicpdlaaGreat.lay w (.inr (joinE e1 d3) :: .inl o :: T) := bw_bw _ _ _
  have h2 : Go.Proofs.YtnnmfdeeicpdlaaGreat.lay w (.inr d3 :: .inr e1 :: .inl o' :: T) = Go.Proofs.YtnnmfdeeicpdlaaGreat.lay w (.inr (joinE e1 d3) :: .inl o' :: T) := bw_bw _ _ _
  rw [h1] at h
  have hb : (Go.Proofs.YtnnmfdeeicpdlaaGreat.lay w T).heap.size < (Go.Proofs.YtnnmfdeeicpdlaaGreat.lay w (.inr e1 :: .inl o :: T)).heap.size := Nat.lt_of_lt_of_le (lay_lt w o T) (lay_below (w := w) (A := [.inr e1]) (B := .inl o :: T)).size
  have h3 := ow_swap o' hb h
  rw [← h2] at h3
  exact (ow_on h3).le (lay_extends w _).size
theorem num_keep3 {w : World} (A : List (Obj ⊕ Ext)) {e1 d3 f : Ext} {o : Obj} (o' : Obj) {T : List (Obj ⊕ Ext)} {v : Value} {l : List Int} (h : Ow (Go.Proofs.YtnnmfdeeicpdlaaGreat.lay w (.inr d3 :: .inr e1 :: .inr f :: .inl o :: T)) (Go.Proofs.YtnnmfdeeicpdlaaGreat.lay w (.inr e1 :: .inr f :: .inl o :: T)).heap.size v l) :
    Ow (Go.Proofs.YtnnmfdeeicpdlaaGreat.lay w (A ++ (.inr d3 :: .inr e1 :: .inr f :: .inl o' :: T))) w.heap.size v l := by
  have h1 : ∀ X, Go.Proofs.YtnnmfdeeicpdlaaGreat.lay w (.inr d3 :: .inr e1 :: .inr f :: X) = Go.Proofs.YtnnmfdeeicpdlaaGreat.lay w (.inr d3 :: .inr (joinE f e1) :: X) := fun X => congrArg (fun W => Go.Proofs.YtnnmfdeeicpdlaaGreat.bw W d3) (bw_bw (Go.Proofs.YtnnmfdeeicpdlaaGreat.lay w X) f e1)
  have h2 : Go.Proofs.YtnnmfdeeicpdlaaGreat.lay w (.inr e1 :: .inr f :: .inl o :: T) = Go.Proofs.YtnnmfdeeicpdlaaGreat.lay w (.inr (joinE f e1) :: .inl o :: T) := bw_bw _ _ _
  rw [h1, h2] at h
  have h3 := num_keep [] o' h
  rw [List.nil_append, ← h1] at h3
  exact ow_on h3
def NmKO (w : World) (base : Nat) (v : Value) (z : Int) (k : Nat) : Prop := ∃ a c l neg, v = .agg #[.slice a l.length c, .bool neg] ∧ Ow w base (.slice a l.length c) l ∧ NumK neg l z ∧ l.length ≤ k
theorem NmKO.k {w : World} {base : Nat} {v : Value} {z : Int} {k : Nat} (h : NmKO w base v z k) : NmK w v z k := by
  obtain ⟨a, c, l, neg, h1, h2, h3, h4⟩ := h
  exact ⟨a, c, l, neg, h1, h2.sl, h3, h4⟩
def NmPO (w : World) (z : Int) (k : Nat) (e : Ending) (w' : World) : Prop := ∃ v d, e = .returned v ∧ w' = bw w d ∧ NmKO (bw w d) w.heap.size v z k
theorem NumK.neg {neg : Bool} {l : List Int} {z : Int} (h : NumK neg l z) : NumK (if l = [] then false else !neg) l (-z) := by
  have h1 := NumK.sign (neg := !neg) h.can
  rwa [show numV (!neg) l = -z by rw [h.val]; unfold numV; cases neg <;> simp] at h1
theorem dg_sign (a : Option Addr) (c : Nat) (l : List Int) (neg : Bool) (w : World) :
    Calls Tryz.prog 335 #[.agg #[.slice a l.length c, .bool neg]] w fun e w' => e = .returned (.agg #[.slice a l.length c, .bool (if l = [] then false else neg)]) ∧ ∃ d, w' = bw w d := by
  by_cases hl : l = []
  · subst hl
    rw [if_pos rfl]
    refine lay_start ?_
    go_enter Tryz.func335, Tryz.ntmps335
    go_wp2_with fail
    exact bodyPost_ret (v := .agg #[.slice a 0 c, .bool false]) (by simp [results, Tryz.results335, go_sem]) rfl ⟨rfl, lay_ex _ _⟩
  · rw [if_neg hl]
    obtain ⟨n, hn⟩ : ∃ n, l.length = n := ⟨_, rfl⟩
    have hn0 : n ≠ 0 := by rw [← hn]; exact fun h => hl (List.length_eq_zero_iff.1 h)
    rw [hn]
    have t1 : ((n : Int) == 0) = false := beq_eq_false_iff_ne.2 (by omega)
    clear hn hl
    refine lay_start ?_
    go_enter Tryz.func335, Tryz.ntmps335
    go_wp2_with fail
    exact bodyPost_ret (v := .agg #[.slice a n c, .bool neg]) (by simp [results, Tryz.results335, go_sem]) rfl ⟨rfl, lay_ex _ _⟩
theorem dg_Minus (v : Value) (z : Int) (k : Nat) (w : World) (h : NmK w v z k) :
    Calls Tryz.prog 300 #[v] w (NmP w (-z) k) := by
  obtain ⟨a, c, l, neg, rfl, hs, hk, hl⟩ := h
  have HS := Lib.hid hs
  have HK := Lib.hid (And.intro hk.neg hl)
  have HG := Lib.hid (fun W => dg_sign a c l (!neg) W)
  clear hs hk hl
  generalize (if l = [] then false else !neg) = g at *
  obtain ⟨n, hn⟩ : ∃ n, l.length = n := ⟨_, rfl⟩
  have HN := Lib.hid hn
  rw [hn] at HG HS ⊢
  clear hn
  refine lay_start ?_
  go_enter Tryz.func300, Tryz.ntmps300
  go_wp2_with (go_at_call 335; refine (HG.out _).mono ?_; rintro e w' ⟨rfl, d1, rfl⟩)
  refine bodyPost_ret (v := .agg #[.slice a n c, .bool g]) (by simp [results, Tryz.results300, go_sem]) rfl ?_
  obtain ⟨y, hy⟩ := lay_ex w [.inr d1, .inl (.cells #[.slice a n c, .bool g] 276 (0, 0)), .inl (.cells #[.slice a n c, .bool neg] 276 (0, 0))]
  refine ⟨_, y, rfl, hy, a, c, l, g, by rw [HN.out], ?_, HK.out.1, HK.out.2⟩
  rw [HN.out]
  exact HS.out.bw y
theorem dg_Mul (v1 v2 : Value) (x y : Int) (k1 k2 : Nat) (w : World) (h1 : NmK w v1 x k1) (h2 : NmK w v2 y k2) (b1 : k1 ≤ 1000) (b2 : k2 ≤ 1000) :
    Calls Tryz.prog 294 #[v1, v2] w (NmPO w (x * y) (k1 + k2)) := by
  obtain ⟨p1, c1, l1, n1, rfl, hs1, hk1, hl1⟩ := h1
  obtain ⟨p2, c2, l2, n2, rfl, hs2, hk2, hl2⟩ := h2
  have HT := Lib.hid (fun L => dg_Times _ _ l1 l2 _ (hs1.lay L) (hs2.lay L) hk1.can.1 hk2.can.1 (by omega) (by omega))
  have HK := Lib.hid (And.intro hk1 (And.intro hk2 (And.intro hl1 hl2)))
  obtain ⟨m1, hm1⟩ : ∃ m, l1.length = m := ⟨_, rfl⟩
  obtain ⟨m2, hm2⟩ : ∃ m, l2.length = m := ⟨_, rfl⟩
  rw [hm1, hm2] at HT
  rw [hm1, hm2] at HK
  rw [hm1, hm2]
  clear hs1 hs2 hk1 hk2 hl1 hl2 hm1 hm2
  refine lay_start ?_
  go_enter Tryz.func294, Tryz.ntmps294
  go_wp2_with fail
  refine region_mixS 12 [(0, 0), (1, 0), (2, 0), (3, 0), (5, 0), (6, 0), (7, 0), (8, 0), (9, 0), (4, 1), (10, 0), (11, 0), (12, 3)] (by kernel_rfl) (by kernel_rfl) (by kernel_rfl) rfl ?_
  repeat (first | (refine wpMS_pure rfl (fun K hK => ?_); go_simp; refine hK _ ?_; clear hK K) | (refine wpMS_quiet rfl (fun K hK => ?_); go_simp; first | (refine hK _ ?_; clear hK K) | (apply Exists.intro; refine ⟨fun _ => ?_, hK _ ?_⟩; (first | fail); clear hK K)))
  refine wpMS_special rfl (fun K hK e1 => ?_)
  rw [lay_bw]
  go_simp
  refine (HT.out _).mono ?_
  rintro e w' ⟨l, v3, d3, ⟨g1, g2, g3⟩, rfl, rfl, hv3⟩
  obtain ⟨A, C, hv, -⟩ := ow_formN hv3
  subst hv
  have HV := Lib.hid hv3
  have HG := Lib.hid (fun W => dg_sign A C l (n1 != n2) W)
  have HF := Lib.hid (NumK.sign (neg := n1 != n2) g1)
  rw [numV_mul HK.out.1 HK.out.2.1 g2] at HF
  have HL : Hid (l.length ≤ k1 + k2) := Lib.hid (by have := HK.out.2.2; omega)
  rw [lay_bw] at HV ⊢
  clear hv3 g1 g2 g3
  generalize (if l = [] then false else n1 != n2) = g at *
  obtain ⟨m, hm⟩ : ∃ m, l.length = m := ⟨_, rfl⟩
  have HM := Lib.hid hm
  rw [hm] at HV HG ⊢
  clear hm
  refine ⟨_, rfl, hK _ _ (lay_in w [.inr d3, .inr e1] _) ?_⟩
  clear hK K
  repeat (first | (refine wpMS_pure rfl (fun K hK => ?_); go_simp; refine hK _ ?_; clear hK K) | (refine wpMS_quiet rfl (fun K hK => ?_); go_simp; first | (refine hK _ ?_; clear hK K) | (apply Exists.intro; refine ⟨fun _ => ?_, hK _ ?_⟩; (first | (go_at_call 335; exact bq (HG.out _) (fun d => ⟨d, rfl⟩))); clear hK K)))
  refine wpMS_store rfl (fun K hK e4 => ?_)
  rw [lay_bw]
  go_simp
  refine hK _ _ ?_
  clear hK K
  refine wpMS_nil (fun e5 => ?_)
  rw [lay_bw]
  go_wp2_with fail
  refine bodyPost_ret (v := .agg #[.slice A m C, .bool g]) (by simp [results, Tryz.results294, go_sem]) rfl ?_
  obtain ⟨y, hy⟩ := lay_ex w [.inr e5, .inr e4, .inr d3, .inr e1, .inl (.cells #[.slice A m C, .bool g] 276 (0, 0)), .inl (.cells #[.slice p2 m2 c2, .bool n2] 276 (0, 0)), .inl (.cells #[.slice p1 m1 c1, .bool n1] 276 (0, 0))]
  refine ⟨_, y, rfl, hy, A, C, l, g, by rw [HM.out], ?_, HF.out, HL.out⟩
  rw [HM.out, ← hy]
  exact num_keep [.inr e5, .inr e4] _ HV.out
theorem dg_Plus (v1 v2 : Value) (x y : Int) (k1 k2 : Nat) (w : World) (h1 : NmK w v1 x k1) (h2 : NmK w v2 y k2) (b1 : k1 ≤ 1000) (b2 : k2 ≤ 1000) :
    Calls Tryz.prog 299 #[v1, v2] w (NmPO w (x + y) (max k1 k2 + 1)) := by
  obtain ⟨p1, c1, l1, n1, rfl, hs1, hk1, hl1⟩ := h1
  obtain ⟨p2, c2, l2, n2, rfl, hs2, hk2, hl2⟩ := h2
  have HK := Lib.hid (And.intro hk1 (And.intro hk2 (And.intro hl1 hl2)))
  by_cases hn : n1 = n2
  · subst hn
    have HT := Lib.hid (fun L => dg_Sum _ _ l1 l2 _ (hs1.lay L) (hs2.lay L) hk1.can hk2.can (by omega) (by omega))
    obtain ⟨m1, hm1⟩ : ∃ m, l1.length = m := ⟨_, rfl⟩
    obtain ⟨m2, hm2⟩ : ∃ m, l2.length = m := ⟨_, rfl⟩
    rw [hm1, hm2] at HT
    rw [hm1, hm2] at HK
    rw [hm1, hm2]
    have t1 : (n1 == n1) = true := beq_self_eq_true n1
    clear hs1 hs2 hk1 hk2 hl1 hl2 hm1 hm2
    refine lay_start ?_
    go_enter Tryz.func299, Tryz.ntmps299
    go_wp2_with fail
    refine region_mixS 8 [(0, 0), (1, 0), (2, 0), (3, 0), (5, 0), (6, 0), (4, 1), (7, 0), (8, 3)] (by kernel_rfl) (by kernel_rfl) (by kernel_rfl) rfl ?_
    repeat (first | (refine wpMS_pure rfl (fun K hK => ?_); go_simp; refine hK _ ?_; clear hK K) | (refine wpMS_quiet rfl (fun K hK => ?_); go_simp; first | (refine hK _ ?_; clear hK K) | (apply Exists.intro; refine ⟨fun _ => ?_, hK _ ?_⟩; (first | fail); clear hK K)))
    refine wpMS_special rfl (fun K hK e1 => ?_)
    rw [lay_bw]
    go_simp
    refine (HT.out _).mono ?_
    rintro e w' ⟨l, v3, d3, ⟨g1, g2, g3⟩, rfl, rfl, hv3⟩
    obtain ⟨A, C, hv, -⟩ := ow_formN hv3
    subst hv
    have HV := Lib.hid hv3
    have HF := Lib.hid (HK.out.1.plus_same HK.out.2.1 g1 g2)
    have HL : Hid (l.length ≤ max k1 k2 + 1) := Lib.hid (by have := HK.out.2.2; omega)
    rw [lay_bw] at HV ⊢
    clear hv3 g1 g2 g3
    obtain ⟨m, hm⟩ : ∃ m, l.length = m := ⟨_, rfl⟩
    have HM := Lib.hid hm
    rw [hm] at HV ⊢
    clear hm
    refine ⟨_, rfl, hK _ _ (lay_in w [.inr d3, .inr e1] _) ?_⟩
    clear hK K
    repeat (first | (refine wpMS_pure rfl (fun K hK => ?_); go_simp; refine hK _ ?_; clear hK K) | (refine wpMS_quiet rfl (fun K hK => ?_); go_simp; first | (refine hK _ ?_; clear hK K) | (apply Exists.intro; refine ⟨fun _ => ?_, hK _ ?_⟩; (first | fail); clear hK K)))
    refine wpMS_store rfl (fun K hK e4 => ?_)
    rw [lay_bw]
    go_simp
    refine hK _ _ ?_
    clear hK K
    refine wpMS_nil (fun e5 => ?_)
    rw [lay_bw]
    go_wp2_with fail
    refine bodyPost_ret (v := .agg #[.slice A m C, .bool n1]) (by simp [results, Tryz.results299, go_sem]) rfl ?_
    obtain ⟨y, hy⟩ := lay_ex w [.inr e5, .inr e4, .inr d3, .inr e1, .inl (.cells #[.slice A m C, .bool n1] 276 (0, 0)), .inl (.cells #[.slice p2 m2 c2, .bool n1] 276 (0, 0)), .inl (.cells #[.slice p1 m1 c1, .bool n1] 276 (0, 0))]
    refine ⟨_, y, rfl, hy, A, C, l, n1, by rw [HM.out], ?_, HF.out, HL.out⟩
    rw [HM.out, ← hy]
    exact num_keep [.inr e5, .inr e4] _ HV.out
  · have t1 : (n1 == n2) = false := beq_eq_false_iff_ne.2 hn
    have HO := Lib.hid (fun L => dg_Order _ _ l1 l2 _ (hs1.lay L) (hs2.lay L) hk1.can hk2.can)
    have HN := Lib.hid hn
    by_cases hv : valD l2 ≤ valD l1
    · have HT := Lib.hid (fun L => dg_Less _ _ l1 l2 _ (hs1.lay L) (hs2.lay L) hk1.can hk2.can (by omega) hv)
      obtain ⟨O, hO⟩ : ∃ O, ordI (valD l1) (valD l2) = O := ⟨_, rfl⟩
      have hO1 : O ≥ 0 := by
        rw [← hO]
        unfold ordI
        rw [if_neg (by omega)]
        split <;> decide
      rw [hO] at HO
      clear hO
      obtain ⟨m1, hm1⟩ : ∃ m, l1.length = m := ⟨_, rfl⟩
      obtain ⟨m2, hm2⟩ : ∃ m, l2.length = m := ⟨_, rfl⟩
      rw [hm1, hm2] at HO
      rw [hm1, hm2] at HT
      rw [hm1, hm2] at HK
      rw [hm1, hm2]
      clear hs1 hs2 hk1 hk2 hl1 hl2 hm1 hm2 hv hn
      refine lay_start ?_
      go_enter Tryz.func299, Tryz.ntmps299
      go_wp2_with (go_at_call 305; refine (HO.out _).mono ?_; rintro e w' ⟨rfl, dO, rfl⟩)
      refine region_mixS 9 [(0, 0), (1, 0), (2, 0), (3, 0), (5, 0), (6, 0), (4, 1), (7, 0), (8, 0), (9, 3)] (by kernel_rfl) (by kernel_rfl) (by kernel_rfl) rfl ?_
      repeat (first | (refine wpMS_pure rfl (fun K hK => ?_); go_simp; refine hK _ ?_; clear hK K) | (refine wpMS_quiet rfl (fun K hK => ?_); go_simp; first | (refine hK _ ?_; clear hK K) | (apply Exists.intro; refine ⟨fun _ => ?_, hK _ ?_⟩; (first | fail); clear hK K)))
      refine wpMS_special rfl (fun K hK e1 => ?_)
      rw [lay_bw]
      go_simp
      refine (HT.out _).mono ?_
      rintro e w' ⟨l, v3, d3, ⟨g1, g2, g3⟩, rfl, rfl, hv3⟩
      obtain ⟨A, C, hv, -⟩ := ow_formN hv3
      subst hv
      have HV := Lib.hid hv3
      have HG := Lib.hid (fun W => dg_sign A C l n1 W)
      have HF := Lib.hid (NumK.sign (neg := n1) g1)
      rw [(numV_less HN.out HK.out.1 HK.out.2.1 g2)] at HF
      have HL : Hid (l.length ≤ max k1 k2 + 1) := Lib.hid (by have := HK.out.2.2; omega)
      rw [lay_bw] at HV ⊢
      clear hv3 g1 g2 g3
      generalize (if l = [] then false else n1) = g at *
      obtain ⟨m, hm⟩ : ∃ m, l.length = m := ⟨_, rfl⟩
      have HM := Lib.hid hm
      rw [hm] at HV HG ⊢
      clear hm
      refine ⟨_, rfl, hK _ _ (lay_in w [.inr d3, .inr e1] _) ?_⟩
      clear hK K
      repeat (first | (refine wpMS_pure rfl (fun K hK => ?_); go_simp; refine hK _ ?_; clear hK K) | (refine wpMS_quiet rfl (fun K hK => ?_); go_simp; first | (refine hK _ ?_; clear hK K) | (apply Exists.intro; refine ⟨fun _ => ?_, hK _ ?_⟩; (first | (go_at_call 335; exact bq (HG.out _) (fun d => ⟨d, rfl⟩))); clear hK K)))
      refine wpMS_store rfl (fun K hK e4 => ?_)
      rw [lay_bw]
      go_simp
      refine hK _ _ ?_
      clear hK K
      refine wpMS_nil (fun e5 => ?_)
      rw [lay_bw]
      go_wp2_with fail
      refine bodyPost_ret (v := .agg #[.slice A m C, .bool g]) (by simp [results, Tryz.results299, go_sem]) rfl ?_
      obtain ⟨y, hy⟩ := lay_ex w [.inr e5, .inr e4, .inr d3, .inr e1, .inr dO, .inl (.cells #[.slice A m C, .bool g] 276 (0, 0)), .inl (.cells #[.slice p2 m2 c2, .bool n2] 276 (0, 0)), .inl (.cells #[.slice p1 m1 c1, .bool n1] 276 (0, 0))]
      refine ⟨_, y, rfl, hy, A, C, l, g, by rw [HM.out], ?_, HF.out, HL.out⟩
      rw [HM.out, ← hy]
      exact num_keep3 [.inr e5, .inr e4] _ HV.out
    · have HT := Lib.hid (fun L => dg_Less _ _ l2 l1 _ (hs2.lay L) (hs1.lay L) hk2.can hk1.can (by omega) (by omega))
      rw [ord_lt (show valD l1 < valD l2 by omega)] at HO
      obtain ⟨m1, hm1⟩ : ∃ m, l1.length = m := ⟨_, rfl⟩
      obtain ⟨m2, hm2⟩ : ∃ m, l2.length = m := ⟨_, rfl⟩
      rw [hm1, hm2] at HO
      rw [hm1, hm2] at HT
      rw [hm1, hm2] at HK
      rw [hm1, hm2]
      clear hs1 hs2 hk1 hk2 hl1 hl2 hm1 hm2 hv hn
      refine lay_start ?_
      go_enter Tryz.func299, Tryz.ntmps299
      go_wp2_with (go_at_call 305; refine (HO.out _).mono ?_; rintro e w' ⟨rfl, dO, rfl⟩)
      refine region_mixS 9 [(0, 0), (1, 0), (2, 0), (3, 0), (5, 0), (6, 0), (4, 1), (7, 0), (8, 0), (9, 3)] (by kernel_rfl) (by kernel_rfl) (by kernel_rfl) rfl ?_
      repeat (first | (refine wpMS_pure rfl (fun K hK => ?_); go_simp; refine hK _ ?_; clear hK K) | (refine wpMS_quiet rfl (fun K hK => ?_); go_simp; first | (refine hK _ ?_; clear hK K) | (apply Exists.intro; refine ⟨fun _ => ?_, hK _ ?_⟩; (first | fail); clear hK K)))
      refine wpMS_special rfl (fun K hK e1 => ?_)
      rw [lay_bw]
      go_simp
      refine (HT.out _).mono ?_
      rintro e w' ⟨l, v3, d3, ⟨g1, g2, g3⟩, rfl, rfl, hv3⟩
      obtain ⟨A, C, hv, -⟩ := ow_formN hv3
      subst hv
      have HV := Lib.hid hv3
      have HG := Lib.hid (fun W => dg_sign A C l n2 W)
      have HF := Lib.hid (NumK.sign (neg := n2) g1)
      rw [((numV_less (Ne.symm HN.out) HK.out.2.1 HK.out.1 g2).trans (Int.add_comm _ _))] at HF
      have HL : Hid (l.length ≤ max k1 k2 + 1) := Lib.hid (by have := HK.out.2.2; omega)
      rw [lay_bw] at HV ⊢
      clear hv3 g1 g2 g3
      generalize (if l = [] then false else n2) = g at *
      obtain ⟨m, hm⟩ : ∃ m, l.length = m := ⟨_, rfl⟩
      have HM := Lib.hid hm
      rw [hm] at HV HG ⊢
      clear hm
      refine ⟨_, rfl, hK _ _ (lay_in w [.inr d3, .inr e1] _) ?_⟩
      clear hK K
      repeat (first | (refine wpMS_pure rfl (fun K hK => ?_); go_simp; refine hK _ ?_; clear hK K) | (refine wpMS_quiet rfl (fun K hK => ?_); go_simp; first | (refine hK _ ?_; clear hK K) | (apply Exists.intro; refine ⟨fun _ => ?_, hK _ ?_⟩; (first | (go_at_call 335; exact bq (HG.out _) (fun d => ⟨d, rfl⟩))); clear hK K)))
      refine wpMS_store rfl (fun K hK e4 => ?_)
      rw [lay_bw]
      go_simp
      refine hK _ _ ?_
      clear hK K
      refine wpMS_nil (fun e5 => ?_)
      rw [lay_bw]
      go_wp2_with fail
      refine bodyPost_ret (v := .agg #[.slice A m C, .bool g]) (by simp [results, Tryz.results299, go_sem]) rfl ?_
      obtain ⟨y, hy⟩ := lay_ex w [.inr e5, .inr e4, .inr d3, .inr e1, .inr dO, .inl (.cells #[.slice A m C, .bool g] 276 (0, 0)), .inl (.cells #[.slice p2 m2 c2, .bool n2] 276 (0, 0)), .inl (.cells #[.slice p1 m1 c1, .bool n1] 276 (0, 0))]
      refine ⟨_, y, rfl, hy, A, C, l, g, by rw [HM.out], ?_, HF.out, HL.out⟩
      rw [HM.out, ← hy]
      exact num_keep3 [.inr e5, .inr e4] _ HV.out
end Go.Proofs.YtnnmfdeeicpdlaaGreat
/- fixed: Sub, Add, fit at any ends. -/
namespace Go.Proofs.YtnnmfdeeicpdlaaGreat
set_option maxRecDepth 100000
open Go.RowKit

theorem fx_SubG (a0 a1 b0 b1 : Int) (w : World) (ha : fxB a0 a1 = true) (hb : fxB b0 b1 = true) (hm : fxB (a0 - b1) (a1 - b0) = true) :
    Calls Tryz.prog 85 #[(.agg #[.int .i64 (a0), .int .i64 (a1)]), (.agg #[.int .i64 (b0), .int .i64 (b1)])] w fun e w' => e = .returned (.tuple #[(.agg #[.int .i64 (a0 - b1), .int .i64 (a1 - b0)]), .int .i64 0]) ∧ ∃ d, w' = bw w d := by
  have HB := Lib.hid (fun W => fx_bothG a0 a1 b0 b1 W)
  rw [ha, hb, Bool.and_self] at HB
  have HT := Lib.hid (fun W => fx_fitG _ _ W hm)
  have hf := fxB_iff.1 hm
  have hfa := fxB_iff.1 ha
  have hfb := fxB_iff.1 hb
  have k1 : IntKind.i64.wrap (a0 - b1) = a0 - b1 := IntWalk.i64_in _ (by omega)
  have k2 : IntKind.i64.wrap (a1 - b0) = a1 - b0 := IntWalk.i64_in _ (by omega)
  clear hf hfa hfb ha hb hm
  refine lay_start ?_
  go_enter Tryz.func85, Tryz.ntmps85
  go_wp2_with (first | (go_at_call 94; refine (HB.out _).mono ?_; rintro e w' ⟨rfl, d, rfl⟩) | (go_at_call 95; refine (HT.out _).mono ?_; rintro e w' ⟨rfl, d1, rfl⟩))
  exact bodyPost_ret (v := .tuple #[(.agg #[.int .i64 (a0 - b1), .int .i64 (a1 - b0)]), .int .i64 0]) (by simp [results, Tryz.results85, go_sem]) rfl ⟨rfl, lay_ex _ _⟩
theorem fx_AddG (a0 a1 b0 b1 : Int) (w : World) (ha : fxB a0 a1 = true) (hb : fxB b0 b1 = true) (hm : fxB (a0 + b0) (a1 + b1) = true) :
    Calls Tryz.prog 277 #[(.agg #[.int .i64 (a0), .int .i64 (a1)]), (.agg #[.int .i64 (b0), .int .i64 (b1)])] w fun e w' => e = .returned (.tuple #[(.agg #[.int .i64 (a0 + b0), .int .i64 (a1 + b1)]), .int .i64 0]) ∧ ∃ d, w' = bw w d := by
  have HB := Lib.hid (fun W => fx_bothG a0 a1 b0 b1 W)
  rw [ha, hb, Bool.and_self] at HB
  have HT := Lib.hid (fun W => fx_fitG _ _ W hm)
  have hf := fxB_iff.1 hm
  have hfa := fxB_iff.1 ha
  have hfb := fxB_iff.1 hb
  have k1 : IntKind.i64.wrap (a0 + b0) = a0 + b0 := IntWalk.i64_in _ (by omega)
  have k2 : IntKind.i64.wrap (a1 + b1) = a1 + b1 := IntWalk.i64_in _ (by omega)
  clear hf hfa hfb ha hb hm
  refine lay_start ?_
  go_enter Tryz.func277, Tryz.ntmps277
  go_wp2_with (first | (go_at_call 94; refine (HB.out _).mono ?_; rintro e w' ⟨rfl, d, rfl⟩) | (go_at_call 95; refine (HT.out _).mono ?_; rintro e w' ⟨rfl, d1, rfl⟩))
  exact bodyPost_ret (v := .tuple #[(.agg #[.int .i64 (a0 + b0), .int .i64 (a1 + b1)]), .int .i64 0]) (by simp [results, Tryz.results277, go_sem]) rfl ⟨rfl, lay_ex _ _⟩
end Go.Proofs.YtnnmfdeeicpdlaaGreat
/- A cell that keeps its value: storing what is there changes nothing. No program in sight. -/
namespace Go.Proofs.YtnnmfdeeicpdlaaGreat
open Go.RowKit

theorem set_same {W : World} {b i : Nat} {v : Value} (h : W.cell? ⟨b, i, none⟩ = some v) : W.setCell ⟨b, i, none⟩ v = W := by
  have hh : W.heap.modify b (fun o => match o with | .cells c elem frozen => .cells (if (none : Option Nat).isSome then c else c.setIfInBounds i v) elem frozen | o => o) = W.heap := by
    refine Array.ext (by simp) fun j h1 h2 => ?_
    rw [Array.getElem_modify]
    split
    · rename_i e
      subst e
      unfold World.cell? at h
      rw [Array.getElem?_eq_getElem h2] at h
      dsimp only at h
      split at h
      · rename_i c e f he
        rw [Option.some.injEq] at he
        rw [he]
        simp only [Option.isSome_none, Bool.false_eq_true, if_false] at h ⊢
        obtain ⟨hi, hv⟩ := Array.getElem?_eq_some_iff.1 h
        rw [Array.setIfInBounds_def, dif_pos hi, ← hv, Array.set_getElem_self]
      · cases h
    · rfl
  obtain ⟨heap, tape, drawn, os, output⟩ := W
  unfold World.setCell
  dsimp only at hh ⊢
  exact congrArg (fun x => ({ heap := x, tape := tape, drawn := drawn, os := os, output := output } : World)) hh
structure ChW (b : Nat) (W : World) : Prop where
  lt : b < W.heap.size
  cell : W.cell? ⟨b, 0, none⟩ = some (.int .i64 0)
  froz : W.frozen? ⟨b, 0, none⟩ = false
theorem ChW.ext {b : Nat} {W W' : World} (h : ChW b W) (hb : Below W.heap.size W W') : ChW b W' :=
  ⟨Nat.lt_of_lt_of_le h.lt hb.size, (hb.cell (p := ⟨b, 0, none⟩) h.lt).trans h.cell, (hb.frozen (p := ⟨b, 0, none⟩) h.lt).trans h.froz⟩
theorem ChW.bw {b : Nat} {W : World} (h : ChW b W) (d : Ext) : ChW b (bw W d) := h.ext (bw_below W d)
theorem ChW.lay {b : Nat} {W : World} (h : ChW b W) (L : List (Obj ⊕ Ext)) : ChW b (lay W L) := h.ext (lay_extends W L)
theorem ChW.set {b : Nat} {W : World} (h : ChW b W) : W.setCell ⟨b, 0, none⟩ (.int .i64 0) = W := set_same h.cell
theorem ChW.on {b : Nat} {w : World} {L : List (Obj ⊕ Ext)} (h : ChW b (Go.Proofs.YtnnmfdeeicpdlaaGreat.lay w L)) (L' : List (Obj ⊕ Ext)) : ChW b (Go.Proofs.YtnnmfdeeicpdlaaGreat.lay w (L' ++ L)) := by
  rw [lay_append]
  exact h.lay L'
theorem chW_new (w : World) (L : List (Obj ⊕ Ext)) (t : TypeId) (p : List Nat) (hp : shp L = p) : ChW (posn w p) (lay w (.inl (Obj.cells #[.int .i64 0] t) :: L)) := by
  subst hp
  have hg : (lay w (.inl (Obj.cells #[.int .i64 0] t) :: L)).heap[posn w (shp L)]? = some (Obj.cells #[.int .i64 0] t) := lay_get w (.inl (Obj.cells #[.int .i64 0] t) :: L) 0 _ rfl
  refine ⟨(Array.getElem?_eq_some_iff.1 hg).1, ?_, ?_⟩
  · unfold World.cell?; dsimp only; rw [hg]; rfl
  · unfold World.frozen?; dsimp only; rw [hg]; rfl
end Go.Proofs.YtnnmfdeeicpdlaaGreat
/- Valid catalogues, in the program and in the reference. -/
namespace Go.Proofs.YtnnmfdeeicpdlaaGreat
open Go.RowKit Go.Shelf

def StOk1 (l : List StarV) (i : Nat) (x : StarV) : Prop := nameB x.s = true ∧ numB x.sha x.dec x.mag = true ∧ fndS l x.s = (i : Int)
structure Cat (l : List StarV) : Prop where
  len : l.length ≤ 100
  ok : ∀ i x, l[i]? = some x → StOk1 l i x
noncomputable def catB (l : List StarV) : Bool := @decide (Cat l) (Classical.propDecidable _)
theorem catB_iff {l : List StarV} : catB l = true ↔ Cat l := by unfold catB; simp
theorem catB_no {l : List StarV} (h : ¬ Cat l) : false = catB l := by cases e : catB l; rfl; exact absurd (catB_iff.1 e) h
theorem catB_yes {l : List StarV} (h : Cat l) : true = catB l := (catB_iff.2 h).symm
theorem cat_big {l : List StarV} (h : 100 < l.length) : ¬ Cat l := fun c => by have := c.len; omega
theorem cat_bad {l : List StarV} {i : Nat} {x : StarV} (hx : l[i]? = some x) (h : ¬ StOk1 l i x) : ¬ Cat l := fun c => h (c.ok i x hx)
theorem cat_all {l : List StarV} {n : Nat} (hn : l.length = n) (hl : n ≤ 100) (h : ∀ i x, i < n → l[i]? = some x → StOk1 l i x) : Cat l := ⟨by omega, fun i x hx => h i x (by have := (List.getElem?_eq_some_iff.1 hx).1; omega) hx⟩
set_option maxHeartbeats 4000000 in
set_option maxRecDepth 100000 in
theorem cat_Valid (v : Value) (l : List StarV) (w : World) (hv : SlG stR w v l) :
    Calls Tryz.prog 66 #[v] w fun e w' => e = .returned (.bool (catB l)) ∧ ∃ d, w' = bw w d := by
  have HV := Lib.hid hv
  by_cases hbig : 100 < l.length
  · have HB := Lib.hid (catB_no (cat_big hbig))
    obtain ⟨a, c, rfl⟩ := hv.form
    have t1 : decide ((100 : Int) < (l.length : Int)) = true := decide_eq_true (by omega)
    clear hv hbig HV
    generalize l.length = m at *
    refine lay_start ?_
    go_enter Tryz.func66, Tryz.ntmps66
    go_wp2
    go_ret
    exact ⟨ret_bool HB.out, lay_ex _ _⟩
  · have t1 : decide ((100 : Int) < (l.length : Int)) = false := decide_eq_false (by omega)
    by_cases hz : l = []
    · subst hz
      have HB := Lib.hid (catB_yes (cat_all (l := []) (n := 0) rfl (by decide) (fun i _ hi => absurd hi (Nat.not_lt_zero i))))
      obtain ⟨a, c, rfl⟩ := hv.form
      refine lay_start ?_
      go_enter Tryz.func66, Tryz.ntmps66
      go_wp2_with fail
      refine wp_loop_rounds 1 ?_
      rw [rounds_succ]
      go_wp2
      go_ret
      exact ⟨ret_bool HB.out, lay_ex _ _⟩
    · obtain ⟨b, o, c, rfl, hc, hb, hr⟩ := hv.open (List.length_pos_iff.2 hz)
      have HI := Lib.hid (fun W s (q : SlG stR W (.slice (some ⟨b, o, none⟩) l.length c) l) => cat_index _ l s W q)
      have HWf := Lib.hid hv.wf
      have HBad := Lib.hid (fun i x hx (h : ¬ StOk1 l i x) => catB_no (cat_bad hx h))
      have HAll := Lib.hid (fun (h : ∀ i x, i < l.length → l[i]? = some x → StOk1 l i x) => catB_yes (cat_all rfl (by omega) h))
      obtain ⟨m, hm⟩ : ∃ m, l.length = m := ⟨_, rfl⟩
      have HM := Lib.hid hm
      have HR : Hid (∀ i x, l[i]? = some x → w.cell? ⟨b, o + i * 4, none⟩ = some (.string x.s) ∧ w.cell? ⟨b, o + i * 4 + 1, none⟩ = some (.int .i64 x.sha) ∧ w.cell? ⟨b, o + i * 4 + 2, none⟩ = some (.int .i64 x.dec) ∧ w.cell? ⟨b, o + i * 4 + 3, none⟩ = some (.int .i64 x.mag)) :=
        Lib.hid (fun i x hx => ⟨hr i x hx 0 _ rfl, hr i x hx 1 _ rfl, hr i x hx 2 _ rfl, hr i x hx 3 _ rfl⟩)
      rw [hm] at hc HV HI HAll hbig t1 ⊢
      clear hz hm hr hv
      refine lay_start ?_
      go_enter Tryz.func66, Tryz.ntmps66
      go_wp2_with fail
      go_loopw [10] (fun i wr => ∃ (k : Nat) (d : Ext), k ≤ m ∧ i = .int .i64 k ∧ wr = lay w [.inr d] ∧ ∀ i x, i < k → l[i]? = some x → StOk1 l i x) (fun i _ => m - (intOf i).toNat)
      case atStart => exact ⟨0, noExt _, Nat.zero_le _, rfl, (bw_noExt _).symm, fun i x hi => by omega⟩
      case round =>
        obtain ⟨k, d, hk, rfl, rfl, hA⟩ := hrel
        have HA := Lib.hid hA
        clear hA
        by_cases hlt : k < m
        · obtain ⟨x, hx⟩ : ∃ x, l[k]? = some x := ⟨_, List.getElem?_eq_getElem (by rw [HM.out]; exact hlt)⟩
          obtain ⟨e0, e1, e2, e3⟩ := HR.out k x hx
          have hsz := (HWf.out x (List.mem_of_getElem? hx)).1
          have HNo := Lib.hid (HBad.out k x hx)
          have HYes : Hid (StOk1 l k x → ∀ i y, i < k + 1 → l[i]? = some y → StOk1 l i y) := Lib.hid (fun h i y hi hy => by
            by_cases e : i = k
            · subst e
              rw [hx] at hy
              cases hy; exact h
            · exact HA.out i y (by omega) hy)
          have hst : StOk1 l k x ↔ nameB x.s = true ∧ numB x.sha x.dec x.mag = true ∧ fndS l x.s = (k : Int) := Iff.rfl
          have HSt := Lib.hid hst
          have x1 : (k : Int) < (m : Int) := by omega
          clear hx hst
          obtain ⟨xs, xa, xb, xc⟩ := x
          dsimp only at e0 e1 e2 e3 hsz HSt
          have HN1 := Lib.hid (fun W => dec_IsName xs W hsz)
          have HN2 := Lib.hid (fun W => cat_numbers xs xa xb xc W)
          have HN3 := Lib.hid (fun W q => HI.out W xs q)
          generalize nameB xs = P1 at *
          generalize numB xa xb xc = P2 at *
          generalize fndS l xs = J at *
          have hcase : (P1 = true ∧ P2 = true ∧ J = (k : Int)) ∨ (¬ StOk1 l k ⟨xs, xa, xb, xc⟩ ∧ (P1 = false ∨ (P1 = true ∧ P2 = false) ∨ (P1 = true ∧ P2 = true ∧ (J == (k : Int)) = false))) := by
            cases P1
            · exact .inr ⟨(fun h => absurd (HSt.out.1 h).1 (by decide)), .inl rfl⟩
            · cases P2
              · exact .inr ⟨(fun h => absurd (HSt.out.1 h).2.1 (by decide)), .inr (.inl ⟨rfl, rfl⟩)⟩
              · by_cases hj : J = (k : Int)
                · exact .inl ⟨rfl, rfl, hj⟩
                · exact .inr ⟨fun h => hj (HSt.out.1 h).2.2, .inr (.inr ⟨rfl, rfl, beq_eq_false_iff_ne.2 hj⟩)⟩
          rcases hcase with ⟨rfl, rfl, rfl⟩ | ⟨hno, hw⟩
          · have HY2 := Lib.hid (HYes.out (HSt.out.2 ⟨rfl, rfl, rfl⟩))
            go_wp2_with (first | (go_at_call 155; refine (HN1.out _).mono ?_; rintro e w' ⟨rfl, rfl⟩) | (go_at_call 156; refine (HN2.out _).mono ?_; rintro e w' ⟨rfl, d, rfl⟩) | (go_at_call 157; refine (HN3.out _ (HV.out.lay _)).mono ?_; rintro e w' ⟨rfl, d, rfl⟩))
            go_roundw
            case rel => exact ⟨k + 1, _, by omega, by go_num, Classical.choose_spec (lay_all w _), HY2.out⟩
            case measure => simp [intOf]; omega
          · have HB := Lib.hid (HNo.out hno)
            clear hno
            rcases hw with rfl | ⟨rfl, rfl⟩ | ⟨rfl, rfl, t9⟩
            all_goals
              go_wp2_with (first | (go_at_call 155; refine (HN1.out _).mono ?_; rintro e w' ⟨rfl, rfl⟩) | (go_at_call 156; refine (HN2.out _).mono ?_; rintro e w' ⟨rfl, d, rfl⟩) | (go_at_call 157; refine (HN3.out _ (HV.out.lay _)).mono ?_; rintro e w' ⟨rfl, d, rfl⟩))
              go_ret
              exact ⟨ret_bool HB.out, lay_ex _ _⟩
        · have HB := Lib.hid (HAll.out (fun i x hi hx => HA.out i x (by omega) hx))
          have x1 : ¬ (k : Int) < (m : Int) := by omega
          go_wp2
          go_ret
          exact ⟨ret_bool HB.out, lay_ex _ _⟩
end Go.Proofs.YtnnmfdeeicpdlaaGreat

/- Contracts and plain laws, several texts in one: Aud7; Aud8; Aud9; Aud10 -/
import Derived.Test.YtmmfkleplbofgaaGreatDoorProg
import Derived.WalkKit
import Derived.WalkSpells
import Derived.WalkLawsBesides
import Derived.Lib.Hide
import Derived.BigQuiet
import Derived.Test.YtmmfkleplbofgaaGreatDoorBAA
import Derived.Test.YtmmfkleplbofgaaGreatDoorBAB
import Derived.Test.YtmmfkleplbofgaaGreatDoorBAE
/- audit: candidates at the middle one of three; all ways together. -/
namespace Go.Proofs.YtmmfkleplbofgaaGreatDoor
open Go.RowKit

theorem half_bd {s bend : Int} (b0 : 0 ≤ bend) (b1 : bend ≤ 1000) (h : -3000000 ≤ s ∧ s ≤ 3000000) : -2000000 ≤ half1 s bend ∧ half1 s bend ≤ half2 s bend ∧ half2 s bend ≤ 2000000 ∧ half2 s bend - half1 s bend ≤ 2000 := by
  unfold half1 half2
  have e1 := Int.tmod_add_mul_tdiv (s - (bend + 2)) 2
  have t1 := Int.tmod_lt_of_pos (s - (bend + 2)) (show (0 : Int) < 2 by decide)
  have t2 : -2 < (s - (bend + 2)).tmod 2 := Int.lt_tmod_of_pos _ (by decide)
  have e2 := Int.tmod_add_mul_tdiv (s + (bend + 2)) 2
  have t3 := Int.tmod_lt_of_pos (s + (bend + 2)) (show (0 : Int) < 2 by decide)
  have t4 : -2 < (s + (bend + 2)).tmod 2 := Int.lt_tmod_of_pos _ (by decide)
  omega
set_option maxHeartbeats 4000000 in
set_option maxRecDepth 100000 in
theorem aud_candidates3 (v : Value) (l : List Int) (wr : Bool) (bend : Int) (w : World) (hs : Sl w v l) (hg : Giv wr l) (b0 : 0 ≤ bend) (b1 : bend ≤ 1000) (h3 : l.length = 3) :
    Calls Tryz.prog 49 #[.agg #[v, .bool wr], .int .i64 bend, .int .i64 1] w (Rw w (once (raw3 wr l bend))) := by
  have p0 := perm_bd (hg.perm 0 (by omega))
  have p2 := perm_bd (hg.perm 2 (by omega))
  have fb := frm_bd (hg.perm 2 (by omega)) (hg.perm 0 (by omega))
  obtain ⟨b, o, cap, rfl, hc, -, hb, hr⟩ := hs.open (by omega)
  have hr0 := hr 0 (by omega)
  have hr0' := hr0
  rw [Nat.add_zero] at hr0'
  have hr2 := hr 2 (by omega)
  have HF := Lib.hid (fun W => aud_form (some ⟨b, o, none⟩) 3 cap wr (nth l 2 - nth l 0) W)
  rw [h3] at hc ⊢
  have eI4 : ∀ args w, (callFunc 67 args).run Tryz.prog w = .ok (.enter 67 args) w := enters_of Tryz.func67 (by kernel_rfl) rfl
  have eI5 : ∀ args w, (callFunc 68 args).run Tryz.prog w = .ok (.enter 68 args) w := enters_of Tryz.func68 (by kernel_rfl) rfl
  have k3 : (lay w [.inl (.cells #[.int .i64 1] 3 (0, 0)), .inl (.cells #[.slice (some ⟨b, o, none⟩) 3 cap, .bool wr] 59 (0, 0))]).cell? ⟨posn w [], 0, none⟩ = some (.slice (some ⟨b, o, none⟩) 3 cap) := by simp [go_sem]
  have k3' : (lay w [.inl (.cells #[.int .i64 1] 3 (0, 0)), .inl (.cells #[.slice (some ⟨b, o, none⟩) 3 cap, .bool wr] 59 (0, 0))]).cell? ⟨posn w [], 1, none⟩ = some (.bool wr) := by simp [go_sem]
  have l3 : posn w [] < (lay w [.inl (.cells #[.int .i64 1] 3 (0, 0)), .inl (.cells #[.slice (some ⟨b, o, none⟩) 3 cap, .bool wr] 59 (0, 0))]).heap.size := by simp only [lay_size, shp, posn, List.sum_cons, List.sum_nil]; omega
  have hp : posn (lay w [.inl (.cells #[.int .i64 1] 3 (0, 0)), .inl (.cells #[.slice (some ⟨b, o, none⟩) 3 cap, .bool wr] 59 (0, 0))]) [] = posn w [1, 1] := by simp only [posn, lay_size, shp, List.sum_cons, List.sum_nil]; omega
  have w6 : IntKind.i64.wrap (nth l 2 - nth l 0) = nth l 2 - nth l 0 := IntWalk.i64_in _ (by omega)
  obtain ⟨S, hS⟩ : ∃ S, frm wr (nth l 2 - nth l 0) = S := ⟨_, rfl⟩
  rw [hS] at fb HF
  have hb1 := half_bd (s := S) b0 b1 ⟨by omega, by omega⟩
  have hb2 := half_bd (s := S + 216000) b0 b1 ⟨by omega, by omega⟩
  have HA := Lib.hid (fun d => aud_add 67 [.pointer (some ⟨posn w [], 0, none⟩)] (fun x => nth l 0 + x) (some ⟨b, o, none⟩) 3 cap (posn w []) wr (half1 S bend) (half2 S bend) (cntH S bend) (.slice none 0 0) []
    (lay w [.inl (.cells #[.int .i64 1] 3 (0, 0)), .inl (.cells #[.slice (some ⟨b, o, none⟩) 3 cap, .bool wr] 59 (0, 0))]) d eI4 l3 k3 k3'
    (fun x x0 x1 L => cand4 b o 3 cap (posn w []) l x _ ((lay_old _ L 0 _ l3).trans k3) (by decide) ((lay_old _ L _ _ (Nat.lt_of_lt_of_le hb (lay_extends w _).size)).trans ((lay_old w _ _ _ hb).trans hr0)) p0 ⟨by omega, by omega⟩)
    (fun x x0 x1 => ⟨by omega, by omega⟩) (by omega) (by omega) (by unfold cntH; omega) (by simp) (Ow.nil _ _))
  have HB := Lib.hid (fun v R d hown (hR : R.length ≤ 100000) => aud_add 68 [.pointer (some ⟨posn w [], 0, none⟩)] (fun x => nth l 0 + x) (some ⟨b, o, none⟩) 3 cap (posn w []) wr (half1 (S + 216000) bend) (half2 (S + 216000) bend) (cntH (S + 216000) bend) v R
    (lay w [.inl (.cells #[.int .i64 1] 3 (0, 0)), .inl (.cells #[.slice (some ⟨b, o, none⟩) 3 cap, .bool wr] 59 (0, 0))]) d eI5 l3 k3 k3'
    (fun x x0 x1 L => cand5 b o 3 cap (posn w []) l x _ ((lay_old _ L 0 _ l3).trans k3) (by decide) ((lay_old _ L _ _ (Nat.lt_of_lt_of_le hb (lay_extends w _).size)).trans ((lay_old w _ _ _ hb).trans hr0)) p0 ⟨by omega, by omega⟩)
    (fun x x0 x1 => ⟨by omega, by omega⟩) (by omega) (by omega) (by unfold cntH; omega) hR hown)
  rw [hp] at HA HB
  have hl1 := addL_len wr (fun x => nth l 0 + x) (half1 S bend) (cntH S bend)
  have hl2 := addL_len wr (fun x => nth l 0 + x) (half1 (S + 216000) bend) (cntH (S + 216000) bend)
  have hraw : raw3 wr l bend = addL wr (fun x => nth l 0 + x) (half1 S bend) (cntH S bend) ++ if wr then addL wr (fun x => nth l 0 + x) (half1 (S + 216000) bend) (cntH (S + 216000) bend) else [] := by unfold raw3; rw [hS]
  rw [hraw]
  rw [List.nil_append] at HA
  have hc1 : cntH S bend ≤ 3000 := by unfold cntH; omega
  have hc2 : cntH (S + 216000) bend ≤ 3000 := by unfold cntH; omega
  generalize addL wr (fun x => nth l 0 + x) (half1 S bend) (cntH S bend) = R1 at *
  generalize addL wr (fun x => nth l 0 + x) (half1 (S + 216000) bend) (cntH (S + 216000) bend) = R2 at *
  have y2 : decide ((3 : Int) < 3) = false := by decide
  have w1 : IntKind.i64.wrap (bend + 2) = bend + 2 := IntWalk.i64_in _ (by omega)
  have w2 : IntKind.i64.wrap (S - (bend + 2)) = S - (bend + 2) := IntWalk.i64_in _ (by omega)
  have w3 : IntKind.i64.wrap (S + (bend + 2)) = S + (bend + 2) := IntWalk.i64_in _ (by omega)
  have w4 : IntKind.i64.wrap (S + 216000) = S + 216000 := IntWalk.i64_in _ (by omega)
  have w5 : IntKind.i64.wrap (S + 216000 - (bend + 2)) = S + 216000 - (bend + 2) := IntWalk.i64_in _ (by omega)
  have w7 : IntKind.i64.wrap (S + 216000 + (bend + 2)) = S + 216000 + (bend + 2) := IntWalk.i64_in _ (by omega)
  have d1 : IntKind.i64.wrap ((S - (bend + 2)).tdiv 2 - 1) = half1 S bend := IntWalk.i64_in _ (show _ ≤ half1 S bend ∧ half1 S bend ≤ _ by omega)
  have d2 : IntKind.i64.wrap ((S + (bend + 2)).tdiv 2 + 1) = half2 S bend := IntWalk.i64_in _ (show _ ≤ half2 S bend ∧ half2 S bend ≤ _ by omega)
  have d3 : IntKind.i64.wrap ((S + 216000 - (bend + 2)).tdiv 2 - 1) = half1 (S + 216000) bend := IntWalk.i64_in _ (show _ ≤ half1 (S + 216000) bend ∧ half1 (S + 216000) bend ≤ _ by omega)
  have d4 : IntKind.i64.wrap ((S + 216000 + (bend + 2)).tdiv 2 + 1) = half2 (S + 216000) bend := IntWalk.i64_in _ (show _ ≤ half2 (S + 216000) bend ∧ half2 (S + 216000) bend ≤ _ by omega)
  have q1 : IntKind.i64.wrap ((S - (bend + 2)).tdiv 2) = (S - (bend + 2)).tdiv 2 := IntWalk.i64_in _ (by unfold half1 half2 at hb1; omega)
  have q2 : IntKind.i64.wrap ((S + (bend + 2)).tdiv 2) = (S + (bend + 2)).tdiv 2 := IntWalk.i64_in _ (by unfold half1 half2 at hb1; omega)
  have q3 : IntKind.i64.wrap ((S + 216000 - (bend + 2)).tdiv 2) = (S + 216000 - (bend + 2)).tdiv 2 := IntWalk.i64_in _ (by unfold half1 half2 at hb2; omega)
  have q4 : IntKind.i64.wrap ((S + 216000 + (bend + 2)).tdiv 2) = (S + 216000 + (bend + 2)).tdiv 2 := IntWalk.i64_in _ (by unfold half1 half2 at hb2; omega)
  have hlay : ∀ x y, lay (lay w [.inl (.cells #[.int .i64 1] 3 (0, 0)), .inl (.cells #[.slice (some ⟨b, o, none⟩) 3 cap, .bool wr] 59 (0, 0))]) [x, y] = lay w [x, y, .inl (.cells #[.int .i64 1] 3 (0, 0)), .inl (.cells #[.slice (some ⟨b, o, none⟩) 3 cap, .bool wr] 59 (0, 0))] := fun x y => (lay_app w [x, y] _).symm
  clear hraw k3 k3' l3 hp eI4 eI5 hs hg hr hS hb1 hb2 hr0
  generalize nth l 0 = A at *
  generalize nth l 2 = B at *
  generalize half1 S bend = h1 at *
  generalize half2 S bend = h2 at *
  generalize half1 (S + 216000) bend = g1 at *
  generalize half2 (S + 216000) bend = g2 at *
  cases wr
  · have hrl : R1.length ≤ 1000000000 := by omega
    rw [show (R1 ++ if false = true then R2 else []) = R1 by simp]
    refine lay_start ?_
    go_enter Tryz.func49, Tryz.ntmps49
    go_wp2_with fail
    refine region_bw (by kernel_rfl) (by kernel_rfl) ?_
    repeat (go_big_quiet_step ((first | (go_at_call 45; exact bq (HF.out _) (fun d => lay_join _ _ _ d)))))
    refine wpQuiet_nil ?_
    rintro w' ⟨d, rfl⟩
    rw [lay_bw]
    go_wp2_with fail
    refine (HA.out _).mono ?_
    rintro e w' ⟨v, d2, rfl, rfl, hv⟩
    rw [hlay] at hv ⊢
    replace hv := hv.base ((box_size _ _ v).trans (show _ = (lay w (.inl (.cells #[v] 29 (0, 0)) :: [.inl (.cells #[.int .i64 1] 3 (0, 0)), .inl (.cells #[.slice (some ⟨b, o, none⟩) 3 cap, .bool false] 59 (0, 0))])).heap.size from rfl))
    have HSo := Lib.hid (sl_Sort' (lay w (.inl (.cells #[v] 29 (0, 0)) :: [.inl (.cells #[.int .i64 1] 3 (0, 0)), .inl (.cells #[.slice (some ⟨b, o, none⟩) 3 cap, .bool false] 59 (0, 0))])) v _ d2 hv hrl)
    clear hv
    go_wp2_with fail
    refine HSo.out.mono ?_
    rintro e w' ⟨d3, rfl, rfl, h3⟩
    rw [lay_bw]
    have HCo := Lib.hid (sl_Compact' (lay w (.inl (.cells #[v] 29 (0, 0)) :: [.inl (.cells #[.int .i64 1] 3 (0, 0)), .inl (.cells #[.slice (some ⟨b, o, none⟩) 3 cap, .bool false] 59 (0, 0))])) v _ d3 h3 hrl)
    clear h3
    go_wp2_with fail
    refine HCo.out.mono ?_
    rintro e w' ⟨v2, d4, rfl, rfl, h4⟩
    obtain ⟨va, vn, vc, hve⟩ := h4.form0
    subst hve
    rw [lay_bw]
    have H4 := Lib.hid h4
    clear h4
    go_wp2
    go_ret
    obtain ⟨z, hz, h5⟩ := cand_end H4.out
    exact ⟨_, z, rfl, hz, h5⟩
  · have hrl : (R1 ++ R2).length ≤ 1000000000 := by rw [List.length_append]; omega
    rw [show (R1 ++ if true = true then R2 else []) = R1 ++ R2 by simp]
    refine lay_start ?_
    go_enter Tryz.func49, Tryz.ntmps49
    go_wp2_with fail
    refine region_bw (by kernel_rfl) (by kernel_rfl) ?_
    repeat (go_big_quiet_step ((first | (go_at_call 45; exact bq (HF.out _) (fun d => lay_join _ _ _ d)))))
    refine wpQuiet_nil ?_
    rintro w' ⟨d, rfl⟩
    rw [lay_bw]
    go_wp2_with fail
    refine (HA.out _).mono ?_
    rintro e w' ⟨v, d2, rfl, rfl, hv⟩
    have HB' := Lib.hid (HB.out v R1 d2 hv (by omega))
    rw [hlay]
    clear hv
    go_wp2_with fail
    refine HB'.out.mono ?_
    rintro e w' ⟨v, d2, rfl, rfl, hv⟩
    rw [hlay] at hv ⊢
    replace hv := hv.base ((box_size _ _ v).trans (show _ = (lay w (.inl (.cells #[v] 29 (0, 0)) :: [.inl (.cells #[.int .i64 1] 3 (0, 0)), .inl (.cells #[.slice (some ⟨b, o, none⟩) 3 cap, .bool true] 59 (0, 0))])).heap.size from rfl))
    have HSo := Lib.hid (sl_Sort' (lay w (.inl (.cells #[v] 29 (0, 0)) :: [.inl (.cells #[.int .i64 1] 3 (0, 0)), .inl (.cells #[.slice (some ⟨b, o, none⟩) 3 cap, .bool true] 59 (0, 0))])) v _ d2 hv hrl)
    clear hv
    go_wp2_with fail
    refine HSo.out.mono ?_
    rintro e w' ⟨d3, rfl, rfl, h3⟩
    rw [lay_bw]
    have HCo := Lib.hid (sl_Compact' (lay w (.inl (.cells #[v] 29 (0, 0)) :: [.inl (.cells #[.int .i64 1] 3 (0, 0)), .inl (.cells #[.slice (some ⟨b, o, none⟩) 3 cap, .bool true] 59 (0, 0))])) v _ d3 h3 hrl)
    clear h3
    go_wp2_with fail
    refine HCo.out.mono ?_
    rintro e w' ⟨v2, d4, rfl, rfl, h4⟩
    obtain ⟨va, vn, vc, hve⟩ := h4.form0
    subst hve
    rw [lay_bw]
    have H4 := Lib.hid h4
    clear h4
    go_wp2
    go_ret
    obtain ⟨z, hz, h5⟩ := cand_end H4.out
    exact ⟨_, z, rfl, hz, h5⟩
/-- What candidates tries. -/
def rawL (wr : Bool) (l : List Int) (bend : Int) (at_ : Nat) : List Int :=
  if 2 ≤ at_ then raw1 wr l bend (at_ - 2) else if at_ + 2 < l.length then raw2 wr l bend at_ else raw3 wr l bend
theorem aud_candidates (v : Value) (l : List Int) (wr : Bool) (bend : Int) (at_ : Nat) (w : World) (hs : Sl w v l) (hg : Giv wr l) (b0 : 0 ≤ bend) (b1 : bend ≤ 1000) (ha : at_ < l.length) :
    Calls Tryz.prog 49 #[.agg #[v, .bool wr], .int .i64 bend, .int .i64 (at_ : Int)] w (Rw w (once (rawL wr l bend at_))) := by
  have h3 := hg.n3
  unfold rawL
  by_cases h : 2 ≤ at_
  · rw [if_pos h]
    obtain ⟨k, rfl⟩ : ∃ k, at_ = k + 2 := ⟨at_ - 2, by omega⟩
    rw [show ((k + 2 : Nat) : Int) = (k : Int) + 2 by omega, show k + 2 - 2 = k by omega]
    exact aud_candidates1 v l wr bend k w hs hg b0 b1 ha
  · rw [if_neg h]
    by_cases h2 : at_ + 2 < l.length
    · rw [if_pos h2]
      exact aud_candidates2 v l wr bend at_ w hs hg b0 b1 (by omega) h2
    · rw [if_neg h2]
      obtain rfl : at_ = 1 := by omega
      exact aud_candidates3 v l wr bend w hs hg b0 b1 (by omega)
end Go.Proofs.YtmmfkleplbofgaaGreatDoor
/- audit: repairs. -/
namespace Go.Proofs.YtmmfkleplbofgaaGreatDoor
open Go.RowKit

theorem lay_setLow {W : World} {g i : Nat} {v : Value} (hg : g < W.heap.size) : ∀ A : List (Obj ⊕ Ext), (lay W A).setCell ⟨g, i, none⟩ v = lay (W.setCell ⟨g, i, none⟩ v) A
  | [] => rfl
  | .inl o :: A => by
    have ih := lay_setLow (v := v) (i := i) hg A
    show (World.alloc (lay W A) o).setCell _ _ = (lay (W.setCell ⟨g, i, none⟩ v) A).alloc o
    rw [← ih]
    have h2 : g < (lay W A).heap.size := Nat.lt_of_lt_of_le hg (lay_extends W A).size
    generalize lay W A = X at *
    simp only [World.alloc, World.setCell]
    congr 1
    apply Array.ext_getElem?
    intro k
    simp only [Array.getElem?_modify, Array.getElem?_push, Array.size_modify]
    by_cases hk : g = k
    · subst hk; simp [Nat.ne_of_lt h2]
    · simp [hk]
  | .inr d :: A => by
    have ih := lay_setLow (v := v) (i := i) hg A
    show (bw (lay W A) d).setCell _ _ = bw (lay (W.setCell ⟨g, i, none⟩ v) A) d
    rw [← ih]
    exact bw_setCell _ _ _ _ _ (Nat.lt_of_lt_of_le hg (lay_extends W A).size)
theorem low_store {w : World} {d : Ext} {B : List (Obj ⊕ Ext)} {g i : Nat} {v : Value} (h1 : (lay w B).heap.size ≤ g) (h2 : g < (lay w (.inr d :: B)).heap.size) :
    ∃ d', ∀ A, (lay w (A ++ .inr d :: B)).setCell ⟨g, i, none⟩ v = lay w (A ++ .inr d' :: B) := by
  obtain ⟨d', hd⟩ := bw_store (d := d) (i := i) (v := v) h1
  refine ⟨d', fun A => ?_⟩
  rw [lay_app, lay_app, lay_setLow h2]
  congr 1
theorem lay_size_inr (w : World) (d : Ext) (B : List (Obj ⊕ Ext)) : (lay w (.inr d :: B)).heap.size = (lay w B).heap.size + d.n := by
  show (bw _ d).heap.size = _
  simp [bw, Ext.n]
theorem Ow.setLow {w : World} {base g i : Nat} {v u : Value} {l : List Int} (h : Ow w base v l) (hg : g < base) : Ow (w.setCell ⟨g, i, none⟩ u) base v l := ⟨ownsRow_setCell_below h.1 hg u, h.2⟩
def loA (at_ : Nat) : Nat := max (at_ - 1) 1
def hiA (at_ n : Nat) : Nat := min (at_ + 2) (n - 1)
theorem loA_mx (at_ : Nat) : mx ((at_ : Int) - 1) 1 = (loA at_ : Int) := by unfold mx loA; split <;> omega
theorem hiA_mn (at_ n : Nat) (h : 1 ≤ n) : mn ((at_ : Int) + 2) ((n : Int) - 1) = (hiA at_ n : Int) := by unfold mn hiA; split <;> omega
def farB (at_ : Nat) (x : Int) : Bool := decide (x < (at_ : Int) - 1 ∨ (at_ : Int) + 1 < x)
def fitB (wr : Bool) (l : List Int) (bend : Int) (at_ : Nat) (x : Int) : Bool := (badL wr (l.set at_ x) bend (loA at_) (hiA at_ l.length)).isEmpty
/-- What repairs returns. -/
def repL (wr : Bool) (l : List Int) (bend : Int) (at_ : Nat) : List Int :=
  if (badL wr l bend 1 (l.length - 1)).any (farB at_) = true then [] else (once (rawL wr l bend at_)).filter (fitB wr l bend at_)
theorem raw_perm {wr : Bool} {l : List Int} {bend : Int} {at_ : Nat} {x : Int} (h : x ∈ rawL wr l bend at_) : permB wr x = true := by
  have key : ∀ {F : Int → Int} {f : Int} {j : Nat}, x ∈ addL wr F f j → permB wr x = true := fun h => by
    obtain ⟨i, _, h⟩ := mem_addL.1 h
    exact (mem_addK.1 h).2.1
  unfold rawL at h
  split at h
  · exact key h
  · split at h
    · exact key h
    · rcases List.mem_append.1 h with h | h
      · exact key h
      · split at h
        · exact key h
        · exact absurd h (List.not_mem_nil)
theorem nth_take_filter (l : List Int) (p : Int → Bool) (k : Nat) (h : k < l.length) : (l.take (k + 1)).filter p = (l.take k).filter p ++ if p (nth l k) = true then [nth l k] else [] := by
  rw [List.take_succ_eq_append_getElem h, List.filter_append]
  congr 1
  have e : nth l k = l[k] := by unfold nth; simp [List.getD, h]
  rw [e]
  simp only [List.filter_cons, List.filter_nil]
theorem filter_len_le (l : List Int) (p : Int → Bool) (k : Nat) : ((l.take k).filter p).length ≤ l.length := Nat.le_trans (List.length_filter_le _ _) (by rw [List.length_take]; omega)
theorem raw_len {wr : Bool} {l : List Int} {bend : Int} {at_ : Nat} (hg : Giv wr l) (b0 : 0 ≤ bend) (b1 : bend ≤ 1000) : (rawL wr l bend at_).length ≤ 10000 := by
  have hn := hg.n3
  unfold rawL
  split
  · have := addL_len wr (fun x => nth l (at_ - 2 + 1) + x) (stp wr l (at_ - 2) - (bend + 2)) (cntM bend)
    unfold raw1; unfold cntM at *; omega
  · split
    · have := addL_len wr (fun x => nth l (at_ + 1) - x) (stp wr l (at_ + 1) - (bend + 2)) (cntM bend)
      unfold raw2; unfold cntM at *; omega
    · have fb := frm_bd (hg.perm 2 (by omega)) (hg.perm 0 (by omega))
      have hb1 := half_bd (s := frm wr (nth l 2 - nth l 0)) b0 b1 ⟨by omega, by omega⟩
      have hb2 := half_bd (s := frm wr (nth l 2 - nth l 0) + 216000) b0 b1 ⟨by omega, by omega⟩
      unfold raw3
      generalize frm wr (nth l 2 - nth l 0) = S at *
      have h1 := addL_len wr (fun x => nth l 0 + x) (half1 S bend) (cntH S bend)
      have h2 := addL_len wr (fun x => nth l 0 + x) (half1 (S + 216000) bend) (cntH (S + 216000) bend)
      have hc1 : cntH S bend ≤ 3000 := by unfold cntH; omega
      have hc2 : cntH (S + 216000) bend ≤ 3000 := by unfold cntH; omega
      rw [List.length_append]
      split
      · omega
      · simp only [List.length_nil]; omega
set_option maxHeartbeats 1000000 in
set_option maxRecDepth 100000 in
theorem aud_repairs (v : Value) (l : List Int) (wr : Bool) (bend : Int) (at_ : Nat) (w : World) (hs : Sl w v l) (hg : Giv wr l) (b0 : 0 ≤ bend) (b1 : bend ≤ 1000) (ha : at_ < l.length) :
    Calls Tryz.prog 30 #[.agg #[v, .bool wr], .int .i64 bend, .int .i64 (at_ : Int)] w (Rw w (repL wr l bend at_)) := by
  have hn := hg.n1000
  have hn3 := hg.n3
  have eI : ∀ args w, (callFunc 47 args).run Tryz.prog w = .ok (.enter 47 args) w := enters_of Tryz.func47 (by kernel_rfl) rfl
  have HBad := Lib.hid (fun W (h : Sl W v l) => aud_bad v l wr bend 0 (l.length : Int) 1 (l.length - 1) W h hg b0 b1 (by decide) (by unfold mn; split <;> omega))
  have HW := Lib.hid (fun W (h : Sl W v l) => aud_with v l wr at_ 0 W h ha hn (by decide))
  have HCa := Lib.hid (fun W (h : Sl W v l) => aud_candidates v l wr bend at_ W h hg b0 b1 ha)
  have HS := Lib.hid hs
  obtain ⟨b, o, cap, rfl, hc, -, hb, hr⟩ := hs.open (by omega)
  have HCF := Lib.hid (fun (vb : Value) (db : Ext) hvb => sl_ContainsFunc 47 (.pointer (some ⟨posn w [1], 0, none⟩)) (farB at_) vb (badL wr l bend 1 (l.length - 1))
    (lay w [.inr db, .inl (.cells #[.int .i64 (at_ : Int)] 3 (0, 0)), .inl (.cells #[.slice (some ⟨b, o, none⟩) l.length cap, .bool wr] 59 (0, 0))]) hvb eI (fun i _ d =>
    aud_repairs1 (posn w [1]) (at_ : Int) _ (lay w [.inr d, .inr db, .inl (.cells #[.int .i64 (at_ : Int)] 3 (0, 0)), .inl (.cells #[.slice (some ⟨b, o, none⟩) l.length cap, .bool wr] 59 (0, 0))]) (by simp only [lay_size, shp, posn, List.sum_cons, List.sum_nil, Ext.n]; omega) (by simp [go_sem]) (by omega) (by omega) |>.mono fun e w' ⟨h1, d2, h2⟩ => ⟨h1, _, h2.trans (bw_bw _ _ _)⟩))
  obtain ⟨m, hm⟩ : ∃ m, l.length = m := ⟨_, rfl⟩
  have hR : repL wr l bend at_ = if (badL wr l bend 1 (m - 1)).any (farB at_) = true then [] else (once (rawL wr l bend at_)).filter (fitB wr l bend at_) := by rw [← hm]; rfl
  rw [hR]
  rw [hm] at HBad HW HCa HS HCF hn hn3 hc ha ⊢
  have HM := Lib.hid hm
  have HG := Lib.hid hg
  clear eI hs hg hr hm hR
  cases hany : (badL wr l bend 1 (m - 1)).any (farB at_)
  · rw [if_neg (by simp)]
    rw [hany] at HCF
    clear hany
    refine lay_start ?_
    go_enter Tryz.func30, Tryz.ntmps30
    go_wp2_with fail
    refine (HBad.out _ (HS.out.lay _)).mono ?_
    rintro e w' ⟨vb, db, rfl, rfl, hvb⟩
    have HCF' := Lib.hid (HCF.out vb db hvb.sl)
    rw [lay_bw]
    clear hvb
    go_wp2_with fail
    refine HCF'.out.mono ?_
    rintro e w' ⟨rfl, d, rfl⟩
    have hfit : ∀ x, fitB wr l bend at_ x = (badL wr (l.set at_ x) bend (loA at_) (hiA at_ m)).isEmpty := fun x => by rw [← HM.out]; rfl
    have hCp : ∀ i, i < (once (rawL wr l bend at_)).length → permB wr (nth (once (rawL wr l bend at_)) i) = true := fun i hi => raw_perm (mem_once.1 (nth_mem hi))
    have hCl : (once (rawL wr l bend at_)).length ≤ 10000 := Nat.le_trans (once_len _) (raw_len HG.out b0 b1)
    have HFit := Lib.hid hfit
    have HCp := Lib.hid hCp
    clear hfit hCp HCF HCF' HBad
    generalize once (rawL wr l bend at_) = C at *
    go_wp2_with fail
    refine (HW.out _ (HS.out.lay _)).mono ?_
    rintro e w' ⟨vx, dw, rfl, rfl, hx⟩
    have hsl : (l.set at_ 0).length = m := by rw [List.length_set]; exact HM.out
    obtain ⟨g, c, rfl, hg1, hg2, hg3, hg4⟩ := hx.form1 (by rw [hsl]; omega)
    rw [hsl] at hx hg3 ⊢
    rw [lay_bw] at hx hg2 ⊢
    have hxs : ∀ x, (l.set at_ 0).set at_ x = l.set at_ x := fun x => List.set_set ..
    have HX := Lib.hid hx
    have HXS := Lib.hid hxs
    have HSL := Lib.hid hsl
    clear hx hxs hsl
    generalize l.set at_ 0 = lx0 at *
    have y0 : (0 : Int) ≤ (at_ : Int) := by omega
    have y1 : (at_ : Int) < (m : Int) := by omega
    have w1 : IntKind.i64.wrap ((at_ : Int) - 1) = (at_ : Int) - 1 := IntWalk.i64_in _ (by omega)
    have w2 : IntKind.i64.wrap ((at_ : Int) + 2) = (at_ : Int) + 2 := IntWalk.i64_in _ (by omega)
    go_wp2_with fail
    refine (HCa.out _ (HS.out.lay _)).mono ?_
    rintro e w' ⟨vc, dc, rfl, rfl, hcn⟩
    obtain ⟨ca, cc, rfl⟩ := hcn.form
    rw [lay_bw] at hcn ⊢
    have HCN := Lib.hid hcn
    clear hcn
    go_wp2_with fail
    go_loopw [7, 27] (fun v7 v27 wr' => ∃ (j : Nat) (dw' d1 : Ext) (lx : List Int), j ≤ C.length ∧ v27 = .int .i64 (j : Int) ∧ wr' = lay w [.inr d1, .inr dc, .inl (.cells #[.slice (some ⟨g, 0, none⟩) m c, .bool wr] 59 (0, 0)), .inr dw', .inr d, .inr db, .inl (.cells #[.int .i64 (at_ : Int)] 3 (0, 0)), .inl (.cells #[.slice (some ⟨b, o, none⟩) m cap, .bool wr] 59 (0, 0))] ∧ dw'.n = dw.n ∧ lx.length = m ∧ (∀ x, lx.set at_ x = l.set at_ x) ∧
      Ow (lay w [.inr dw', .inr d, .inr db, .inl (.cells #[.int .i64 (at_ : Int)] 3 (0, 0)), .inl (.cells #[.slice (some ⟨b, o, none⟩) m cap, .bool wr] 59 (0, 0))]) (lay w [.inr d, .inr db, .inl (.cells #[.int .i64 (at_ : Int)] 3 (0, 0)), .inl (.cells #[.slice (some ⟨b, o, none⟩) m cap, .bool wr] 59 (0, 0))]).heap.size (.slice (some ⟨g, 0, none⟩) m c) lx ∧
      Ow (lay w [.inr dc, .inl (.cells #[.slice (some ⟨g, 0, none⟩) m c, .bool wr] 59 (0, 0)), .inr dw', .inr d, .inr db, .inl (.cells #[.int .i64 (at_ : Int)] 3 (0, 0)), .inl (.cells #[.slice (some ⟨b, o, none⟩) m cap, .bool wr] 59 (0, 0))]) (lay w [.inl (.cells #[.slice (some ⟨g, 0, none⟩) m c, .bool wr] 59 (0, 0)), .inr dw', .inr d, .inr db, .inl (.cells #[.int .i64 (at_ : Int)] 3 (0, 0)), .inl (.cells #[.slice (some ⟨b, o, none⟩) m cap, .bool wr] 59 (0, 0))]).heap.size (.slice ca C.length cc) C ∧
      Ow (lay w [.inr d1, .inr dc, .inl (.cells #[.slice (some ⟨g, 0, none⟩) m c, .bool wr] 59 (0, 0)), .inr dw', .inr d, .inr db, .inl (.cells #[.int .i64 (at_ : Int)] 3 (0, 0)), .inl (.cells #[.slice (some ⟨b, o, none⟩) m cap, .bool wr] 59 (0, 0))]) (lay w [.inr dc, .inl (.cells #[.slice (some ⟨g, 0, none⟩) m c, .bool wr] 59 (0, 0)), .inr dw', .inr d, .inr db, .inl (.cells #[.int .i64 (at_ : Int)] 3 (0, 0)), .inl (.cells #[.slice (some ⟨b, o, none⟩) m cap, .bool wr] 59 (0, 0))]).heap.size v7 ((C.take j).filter (fitB wr l bend at_))) (fun _ v27 _ => C.length - (intOf v27).toNat)
    case atStart => exact ⟨0, dw, noExt _, lx0, Nat.zero_le _, rfl, (bw_noExt _).symm, rfl, HSL.out, HXS.out, HX.out, HCN.out, Ow.nil _ _⟩
    case round =>
      obtain ⟨j, dw', d1, lx, hj, rfl, rfl, hdn, hlx, hlxs, hX, hC, hO⟩ := hrel
      by_cases hlt : j < C.length
      · obtain ⟨gc, cc', he, hgc1, -⟩ := hC.form1 (by omega)
        cases he
        obtain ⟨hgx1, hgx2⟩ := hX.1.lt g rfl
        have hp := HCp.out j hlt
        have hpb := perm_bd hp
        have k0 : (lay w [.inr d1, .inr dc, .inl (.cells #[.slice (some ⟨g, 0, none⟩) m c, .bool wr] 59 (0, 0)), .inr dw', .inr d, .inr db, .inl (.cells #[.int .i64 (at_ : Int)] 3 (0, 0)), .inl (.cells #[.slice (some ⟨b, o, none⟩) m cap, .bool wr] 59 (0, 0))]).cell? ⟨gc, j, none⟩ = some (.int .i64 (nth C j)) := (ow_on (A := [.inr d1]) hC).cell (i := j) hlt
        have kx : (lay w [.inr d1, .inr dc, .inl (.cells #[.slice (some ⟨g, 0, none⟩) m c, .bool wr] 59 (0, 0)), .inr dw', .inr d, .inr db, .inl (.cells #[.int .i64 (at_ : Int)] 3 (0, 0)), .inl (.cells #[.slice (some ⟨b, o, none⟩) m cap, .bool wr] 59 (0, 0))]).cell? ⟨g, at_, none⟩ = some (.int .i64 (nth lx at_)) := (ow_on (A := [.inr d1, .inr dc, .inl (.cells #[.slice (some ⟨g, 0, none⟩) m c, .bool wr] 59 (0, 0))]) hX).cell (i := at_) (by omega)
        have kf : (lay w [.inr d1, .inr dc, .inl (.cells #[.slice (some ⟨g, 0, none⟩) m c, .bool wr] 59 (0, 0)), .inr dw', .inr d, .inr db, .inl (.cells #[.int .i64 (at_ : Int)] 3 (0, 0)), .inl (.cells #[.slice (some ⟨b, o, none⟩) m cap, .bool wr] 59 (0, 0))]).frozen? ⟨g, at_, none⟩ = false := (ow_on (A := [.inr d1, .inr dc, .inl (.cells #[.slice (some ⟨g, 0, none⟩) m c, .bool wr] 59 (0, 0))]) hX).froz at_
        have hgo : g < (lay w [.inl (.cells #[.slice (some ⟨g, 0, none⟩) m c, .bool wr] 59 (0, 0)), .inr dw', .inr d, .inr db, .inl (.cells #[.int .i64 (at_ : Int)] 3 (0, 0)), .inl (.cells #[.slice (some ⟨b, o, none⟩) m cap, .bool wr] 59 (0, 0))]).heap.size := Nat.lt_of_lt_of_le hgx2 (lay_below (A := [.inl (.cells #[.slice (some ⟨g, 0, none⟩) m c, .bool wr] 59 (0, 0))]) (B := [.inr dw', .inr d, .inr db, .inl (.cells #[.int .i64 (at_ : Int)] 3 (0, 0)), .inl (.cells #[.slice (some ⟨b, o, none⟩) m cap, .bool wr] 59 (0, 0))])).size
        have hgo2 : g < (lay w [.inr dc, .inl (.cells #[.slice (some ⟨g, 0, none⟩) m c, .bool wr] 59 (0, 0)), .inr dw', .inr d, .inr db, .inl (.cells #[.int .i64 (at_ : Int)] 3 (0, 0)), .inl (.cells #[.slice (some ⟨b, o, none⟩) m cap, .bool wr] 59 (0, 0))]).heap.size := Nat.lt_of_lt_of_le hgx2 (lay_below (A := [.inr dc, .inl (.cells #[.slice (some ⟨g, 0, none⟩) m c, .bool wr] 59 (0, 0))]) (B := [.inr dw', .inr d, .inr db, .inl (.cells #[.int .i64 (at_ : Int)] 3 (0, 0)), .inl (.cells #[.slice (some ⟨b, o, none⟩) m cap, .bool wr] 59 (0, 0))])).size
        have hwf : (Lit.int .i64 (nth C j)).wf = true := by simp [Lit.wf, IntKind.min, IntKind.max, IntKind.bits, IntKind.signed]; omega
        obtain ⟨dw2, hst⟩ := low_store (d := dw') (B := [.inr d, .inr db, .inl (.cells #[.int .i64 (at_ : Int)] 3 (0, 0)), .inl (.cells #[.slice (some ⟨b, o, none⟩) m cap, .bool wr] 59 (0, 0))]) (i := at_) (v := .int .i64 (nth C j)) hgx1 hgx2
        have s0 : (lay w [.inr dw', .inr d, .inr db, .inl (.cells #[.int .i64 (at_ : Int)] 3 (0, 0)), .inl (.cells #[.slice (some ⟨b, o, none⟩) m cap, .bool wr] 59 (0, 0))]).setCell ⟨g, at_, none⟩ (.int .i64 (nth C j)) = lay w [.inr dw2, .inr d, .inr db, .inl (.cells #[.int .i64 (at_ : Int)] 3 (0, 0)), .inl (.cells #[.slice (some ⟨b, o, none⟩) m cap, .bool wr] 59 (0, 0))] := hst []
        have s1 : (lay w [.inl (.cells #[.slice (some ⟨g, 0, none⟩) m c, .bool wr] 59 (0, 0)), .inr dw', .inr d, .inr db, .inl (.cells #[.int .i64 (at_ : Int)] 3 (0, 0)), .inl (.cells #[.slice (some ⟨b, o, none⟩) m cap, .bool wr] 59 (0, 0))]).setCell ⟨g, at_, none⟩ (.int .i64 (nth C j)) = lay w [.inl (.cells #[.slice (some ⟨g, 0, none⟩) m c, .bool wr] 59 (0, 0)), .inr dw2, .inr d, .inr db, .inl (.cells #[.int .i64 (at_ : Int)] 3 (0, 0)), .inl (.cells #[.slice (some ⟨b, o, none⟩) m cap, .bool wr] 59 (0, 0))] := hst [_]
        have s2 : (lay w [.inr dc, .inl (.cells #[.slice (some ⟨g, 0, none⟩) m c, .bool wr] 59 (0, 0)), .inr dw', .inr d, .inr db, .inl (.cells #[.int .i64 (at_ : Int)] 3 (0, 0)), .inl (.cells #[.slice (some ⟨b, o, none⟩) m cap, .bool wr] 59 (0, 0))]).setCell ⟨g, at_, none⟩ (.int .i64 (nth C j)) = lay w [.inr dc, .inl (.cells #[.slice (some ⟨g, 0, none⟩) m c, .bool wr] 59 (0, 0)), .inr dw2, .inr d, .inr db, .inl (.cells #[.int .i64 (at_ : Int)] 3 (0, 0)), .inl (.cells #[.slice (some ⟨b, o, none⟩) m cap, .bool wr] 59 (0, 0))] := hst [_, _]
        have s3 : (lay w [.inr d1, .inr dc, .inl (.cells #[.slice (some ⟨g, 0, none⟩) m c, .bool wr] 59 (0, 0)), .inr dw', .inr d, .inr db, .inl (.cells #[.int .i64 (at_ : Int)] 3 (0, 0)), .inl (.cells #[.slice (some ⟨b, o, none⟩) m cap, .bool wr] 59 (0, 0))]).setCell ⟨g, at_, none⟩ (.int .i64 (nth C j)) = lay w [.inr d1, .inr dc, .inl (.cells #[.slice (some ⟨g, 0, none⟩) m c, .bool wr] 59 (0, 0)), .inr dw2, .inr d, .inr db, .inl (.cells #[.int .i64 (at_ : Int)] 3 (0, 0)), .inl (.cells #[.slice (some ⟨b, o, none⟩) m cap, .bool wr] 59 (0, 0))] := hst [_, _, _]
        have hdn2 : dw2.n = dw.n := by
          have e1 := congrArg (fun W => W.heap.size) s0
          simp only [World.size_setCell] at e1
          rw [lay_size_inr w dw' [.inr d, .inr db, .inl (.cells #[.int .i64 (at_ : Int)] 3 (0, 0)), .inl (.cells #[.slice (some ⟨b, o, none⟩) m cap, .bool wr] 59 (0, 0))], lay_size_inr w dw2 [.inr d, .inr db, .inl (.cells #[.int .i64 (at_ : Int)] 3 (0, 0)), .inl (.cells #[.slice (some ⟨b, o, none⟩) m cap, .bool wr] 59 (0, 0))]] at e1
          omega
        have z1 : (lay w [.inl (.cells #[.slice (some ⟨g, 0, none⟩) m c, .bool wr] 59 (0, 0)), .inr dw', .inr d, .inr db, .inl (.cells #[.int .i64 (at_ : Int)] 3 (0, 0)), .inl (.cells #[.slice (some ⟨b, o, none⟩) m cap, .bool wr] 59 (0, 0))]).heap.size = (lay w [.inl (.cells #[.slice (some ⟨g, 0, none⟩) m c, .bool wr] 59 (0, 0)), .inr dw2, .inr d, .inr db, .inl (.cells #[.int .i64 (at_ : Int)] 3 (0, 0)), .inl (.cells #[.slice (some ⟨b, o, none⟩) m cap, .bool wr] 59 (0, 0))]).heap.size := by rw [← s1, World.size_setCell]
        have z2 : (lay w [.inr dc, .inl (.cells #[.slice (some ⟨g, 0, none⟩) m c, .bool wr] 59 (0, 0)), .inr dw', .inr d, .inr db, .inl (.cells #[.int .i64 (at_ : Int)] 3 (0, 0)), .inl (.cells #[.slice (some ⟨b, o, none⟩) m cap, .bool wr] 59 (0, 0))]).heap.size = (lay w [.inr dc, .inl (.cells #[.slice (some ⟨g, 0, none⟩) m c, .bool wr] 59 (0, 0)), .inr dw2, .inr d, .inr db, .inl (.cells #[.int .i64 (at_ : Int)] 3 (0, 0)), .inl (.cells #[.slice (some ⟨b, o, none⟩) m cap, .bool wr] 59 (0, 0))]).heap.size := by rw [← s2, World.size_setCell]
        have hX2 := ow_store hX at_ (nth C j) hwf
        rw [s0, hlxs] at hX2
        have hC2 := hC.setLow (i := at_) (u := .int .i64 (nth C j)) hgo
        rw [s2] at hC2
        replace hC2 := hC2.base z1
        have hO2 := hO.setLow (i := at_) (u := .int .i64 (nth C j)) hgo2
        rw [s3] at hO2
        replace hO2 := hO2.base z2
        have hfi := nth_take_filter C (fitB wr l bend at_) j hlt
        rw [HFit.out] at hfi
        have hgi := giv_set HG.out at_ (nth C j) hp
        have hsm : (l.set at_ (nth C j)).length = m := by rw [List.length_set]; exact HM.out
        have HB := Lib.hid (aud_bad _ (l.set at_ (nth C j)) wr bend ((at_ : Int) - 1) ((at_ : Int) + 2) (loA at_) (hiA at_ m) (lay w [.inr d1, .inr dc, .inl (.cells #[.slice (some ⟨g, 0, none⟩) m c, .bool wr] 59 (0, 0)), .inr dw2, .inr d, .inr db, .inl (.cells #[.int .i64 (at_ : Int)] 3 (0, 0)), .inl (.cells #[.slice (some ⟨b, o, none⟩) m cap, .bool wr] 59 (0, 0))]) (sl_on (A := [.inr d1, .inr dc, .inl (.cells #[.slice (some ⟨g, 0, none⟩) m c, .bool wr] 59 (0, 0))]) hX2.sl) hgi b0 b1 (loA_mx _) (by rw [hsm]; exact hiA_mn _ _ (by omega)))
        have hfl := filter_len_le C (fitB wr l bend at_) j
        have x1 : (j : Int) < (C.length : Int) := by omega
        clear hX hC hO s0 s1 s2 z1 z2 hst hgo hgo2 hgi hp hpb hsm hlxs hlx hgx1 hgx2 hgc1
        have HX2 := Lib.hid hX2
        have HC2 := Lib.hid hC2
        have HO2 := Lib.hid hO2
        clear hX2 hC2 hO2
        generalize nth C j = n at *
        generalize badL wr (l.set at_ n) bend (loA at_) (hiA at_ m) = BL at *
        go_wp2_with fail
        refine HB.out.mono ?_
        rintro e w' ⟨vb2, d2, rfl, rfl, hvb2⟩
        obtain ⟨ba, bc, rfl⟩ := hvb2.form
        rw [lay_bw]
        clear hvb2 HB
        by_cases hBL : BL = []
        · subst hBL
          have HST : Hid ((C.take (j + 1)).filter (fitB wr l bend at_) = (C.take j).filter (fitB wr l bend at_) ++ [n]) := Lib.hid (by rw [hfi]; simp)
          clear hfi
          go_wp2_with (at_builtin; refine push_int rfl _ _ rfl (lay w [.inr dc, .inl (.cells #[.slice (some ⟨g, 0, none⟩) m c, .bool wr] 59 (0, 0)), .inr dw2, .inr d, .inr db, .inl (.cells #[.int .i64 (at_ : Int)] 3 (0, 0)), .inl (.cells #[.slice (some ⟨b, o, none⟩) m cap, .bool wr] 59 (0, 0))]) _ (n) 3 _ _ _ ?_ (ow_on (A := [_, _]) HO2.out) ?_ rfl rfl (by omega) hwf ?_; exact lay_below (A := [_, _, _]); rw [← hdn2]; exact lay_get w _ 0 _ rfl; intro v' d' hv')
          go_roundw
          case rel => exact ⟨j + 1, dw2, d', l.set at_ n, hlt, by go_num, rfl, hdn2, by rw [List.length_set]; exact HM.out, fun x => List.set_set .., HX2.out, HC2.out, by rw [HST.out]; exact hv'⟩
          case measure => simp [intOf]; omega
        · have HST : Hid ((C.take (j + 1)).filter (fitB wr l bend at_) = (C.take j).filter (fitB wr l bend at_)) := Lib.hid (by rw [hfi, if_neg (by simpa using hBL), List.append_nil])
          have hz : ((BL.length : Int) == 0) = false := beq_eq_false_iff_ne.2 (fun h => hBL (List.eq_nil_of_length_eq_zero (by omega)))
          clear hfi hBL
          generalize BL.length = q at *
          go_wp2_with fail
          go_roundw
          case rel => exact ⟨j + 1, dw2, _, l.set at_ n, hlt, by go_num, Classical.choose_spec (lay_fold w [_, _] [.inr dc, .inl (.cells #[.slice (some ⟨g, 0, none⟩) m c, .bool wr] 59 (0, 0)), .inr dw2, .inr d, .inr db, .inl (.cells #[.int .i64 (at_ : Int)] 3 (0, 0)), .inl (.cells #[.slice (some ⟨b, o, none⟩) m cap, .bool wr] 59 (0, 0))]), hdn2, by rw [List.length_set]; exact HM.out, fun x => List.set_set .., HX2.out, HC2.out, by rw [← Classical.choose_spec (lay_fold w [_, _] [.inr dc, .inl (.cells #[.slice (some ⟨g, 0, none⟩) m c, .bool wr] 59 (0, 0)), .inr dw2, .inr d, .inr db, .inl (.cells #[.int .i64 (at_ : Int)] 3 (0, 0)), .inl (.cells #[.slice (some ⟨b, o, none⟩) m cap, .bool wr] 59 (0, 0))]), HST.out]; exact ow_on (A := [_]) HO2.out⟩
          case measure => simp [intOf]; omega
      · obtain rfl : j = C.length := by omega
        rw [List.take_length] at hO
        have HO := Lib.hid hO
        have x1 : (C.length : Int) ≤ (C.length : Int) := Int.le_refl _
        clear hO hX hC hlxs hlx
        go_wp2
        go_ret
        obtain ⟨z, hz⟩ := lay_ex w [.inr d1, .inr dc, .inl (.cells #[.slice (some ⟨g, 0, none⟩) m c, .bool wr] 59 (0, 0)), .inr dw', .inr d, .inr db, .inl (.cells #[.int .i64 (at_ : Int)] 3 (0, 0)), .inl (.cells #[.slice (some ⟨b, o, none⟩) m cap, .bool wr] 59 (0, 0))]
        have h := HO.out
        rw [hz] at h
        exact ⟨_, z, rfl, hz, h.le (lay_extends w _).size⟩
  · rw [if_pos rfl]
    rw [hany] at HCF
    clear hany
    refine lay_start ?_
    go_enter Tryz.func30, Tryz.ntmps30
    go_wp2_with fail
    refine (HBad.out _ (HS.out.lay _)).mono ?_
    rintro e w' ⟨vb, db, rfl, rfl, hvb⟩
    have HCF' := Lib.hid (HCF.out vb db hvb.sl)
    rw [lay_bw]
    clear hvb
    go_wp2_with fail
    refine HCF'.out.mono ?_
    rintro e w' ⟨rfl, d, rfl⟩
    go_wp2
    go_ret
    obtain ⟨z, hz⟩ := lay_ex w [.inr d, .inr db, .inl (.cells #[.int .i64 (at_ : Int)] 3 (0, 0)), .inl (.cells #[.slice (some ⟨b, o, none⟩) m cap, .bool wr] 59 (0, 0))]
    exact ⟨_, z, rfl, hz, Ow.nil _ _⟩
end Go.Proofs.YtmmfkleplbofgaaGreatDoor
/- audit: suspects. -/
namespace Go.Proofs.YtmmfkleplbofgaaGreatDoor
open Go.RowKit

/-- The indexes from one up to before another one at which there are repairs. -/
def reps (wr : Bool) (l : List Int) (bend : Int) (lo hi : Nat) : List Int := ((List.range' lo (hi - lo)).filter fun i => !(repL wr l bend i).isEmpty).map Int.ofNat
theorem reps_self (wr : Bool) (l : List Int) (bend : Int) (lo hi : Nat) (h : hi ≤ lo) : reps wr l bend lo hi = [] := by unfold reps; rw [show hi - lo = 0 by omega]; rfl
theorem reps_step (wr : Bool) (l : List Int) (bend : Int) (lo k : Nat) (h : lo ≤ k) : reps wr l bend lo (k + 1) = reps wr l bend lo k ++ if repL wr l bend k = [] then [] else [(k : Int)] := by
  unfold reps
  rw [show k + 1 - lo = (k - lo) + 1 by omega, List.range'_concat, List.filter_append, List.map_append]
  congr 1
  rw [show lo + 1 * (k - lo) = k by omega]
  by_cases e : repL wr l bend k = []
  · simp [e]
  · have : (repL wr l bend k).isEmpty = false := by simpa using e
    simp [this, e]
theorem reps_len (wr : Bool) (l : List Int) (bend : Int) (lo hi : Nat) : (reps wr l bend lo hi).length ≤ hi - lo := by
  unfold reps; rw [List.length_map]; exact Nat.le_trans (List.length_filter_le _ _) (by simp)
theorem mem_reps {wr : Bool} {l : List Int} {bend : Int} {lo hi : Nat} {x : Int} : x ∈ reps wr l bend lo hi ↔ ∃ i : Nat, x = i ∧ lo ≤ i ∧ i < hi ∧ repL wr l bend i ≠ [] := by
  unfold reps
  rw [List.mem_map]
  constructor
  · rintro ⟨i, h, rfl⟩
    obtain ⟨h1, h2⟩ := List.mem_filter.1 h
    rw [List.mem_range'_1] at h1
    exact ⟨i, rfl, h1.1, by omega, by simpa using h2⟩
  · rintro ⟨i, rfl, h1, h2, h3⟩
    exact ⟨i, List.mem_filter.2 ⟨List.mem_range'_1.2 ⟨h1, by omega⟩, by simpa using h3⟩, rfl⟩
def susLo (B : List Int) : Nat := (nth B (B.length - 1) - 1).toNat
def susHi (B : List Int) (n : Nat) : Nat := (min ((n : Int) - 1) (nth B 0 + 1)).toNat + 1
def sus2 (wr : Bool) (l : List Int) (bend : Int) (lo hi : Nat) (B : List Int) : List Int := if reps wr l bend lo hi = [] then B else reps wr l bend lo hi
/-- What suspects returns. -/
def susL (wr : Bool) (l : List Int) (bend : Int) : List Int :=
  if badL wr l bend 1 (l.length - 1) = [] then [] else
  sus2 wr l bend (susLo (badL wr l bend 1 (l.length - 1))) (susHi (badL wr l bend 1 (l.length - 1)) l.length) (badL wr l bend 1 (l.length - 1))
theorem bad_at {wr : Bool} {l : List Int} {bend : Int} {lo hi i : Nat} (h : i < (badL wr l bend lo hi).length) : (lo : Int) ≤ nth (badL wr l bend lo hi) i ∧ nth (badL wr l bend lo hi) i < hi := by
  obtain ⟨j, e, h1, h2, -⟩ := mem_badL.1 (nth_mem h)
  rw [e]; omega
set_option maxHeartbeats 2000000 in
set_option maxRecDepth 100000 in
theorem aud_suspects (v : Value) (l : List Int) (wr : Bool) (bend : Int) (w : World) (hs : Sl w v l) (hg : Giv wr l) (b0 : 0 ≤ bend) (b1 : bend ≤ 1000) :
    Calls Tryz.prog 33 #[.agg #[v, .bool wr], .int .i64 bend] w (Rw w (susL wr l bend)) := by
  have hn := hg.n1000
  have hn3 := hg.n3
  have HBad := Lib.hid (fun W (h : Sl W v l) => aud_bad v l wr bend 0 (l.length : Int) 1 (l.length - 1) W h hg b0 b1 (by decide) (by unfold mn; split <;> omega))
  have HRep := Lib.hid (fun W (k : Nat) (hk : k < l.length) (h : Sl W v l) => aud_repairs v l wr bend k W h hg b0 b1 hk)
  have HS := Lib.hid hs
  obtain ⟨b, o, cap, rfl, hc, -, hb, hr⟩ := hs.open (by omega)
  obtain ⟨m, hm⟩ : ∃ m, l.length = m := ⟨_, rfl⟩
  unfold susL
  have hat := fun i => @bad_at wr l bend 1 (m - 1) i
  have hbl := badL_len (wr := wr) (l := l) (bend := bend) (lo := 1) (hi := m - 1)
  rw [hm] at HBad HRep HS hn hn3 hc ⊢
  clear hr hs hg hm
  generalize hB : badL wr l bend 1 (m - 1) = B at *
  clear hB
  by_cases hz : B = []
  · subst hz
    rw [if_pos rfl]
    clear hat hbl
    refine lay_start ?_
    go_enter Tryz.func33, Tryz.ntmps33
    go_wp2_with fail
    refine (HBad.out _ (HS.out.lay _)).mono ?_
    rintro e w' ⟨vb, db, rfl, rfl, hvb⟩
    obtain ⟨ba, bc, rfl⟩ := hvb.form
    rw [lay_bw]
    clear hvb
    go_wp2
    go_ret
    obtain ⟨z, hz⟩ := lay_ex w [.inr db, .inl (.cells #[.slice (some ⟨b, o, none⟩) m cap, .bool wr] 59 (0, 0))]
    exact ⟨_, z, rfl, hz, Ow.nil _ _⟩
  · rw [if_neg hz]
    have hpos : 0 < B.length := List.length_pos_iff.2 hz
    have h0 := hat 0 hpos
    have h1 := hat (B.length - 1) (by omega)
    obtain ⟨lo, hlo⟩ : ∃ lo, susLo B = lo := ⟨_, rfl⟩
    obtain ⟨hi, hhi⟩ : ∃ hi, susHi B m = hi := ⟨_, rfl⟩
    have hmx : mx 0 (nth B (B.length - 1) - 1) = (lo : Int) := by rw [← hlo]; unfold susLo mx; split <;> omega
    have hmn : mn ((m : Int) - 1) (nth B 0 + 1) = (hi : Int) - 1 := by rw [← hhi]; unfold susHi mn; split <;> omega
    have hhm : hi ≤ m := by rw [← hhi]; unfold susHi; omega
    rw [hlo, hhi]
    clear hat hlo hhi hz
    obtain ⟨q, hq⟩ : ∃ q, B.length = q := ⟨_, rfl⟩
    have HQ := Lib.hid hq
    rw [hq] at hpos hmx h1 hbl
    have hz1 : ((q : Int) == 0) = false := beq_eq_false_iff_ne.2 (by omega)
    have wq : IntKind.i64.wrap ((q : Int) - 1) = (q : Int) - 1 := IntWalk.i64_in _ (by omega)
    have y0 : (0 : Int) ≤ (q : Int) - 1 := by omega
    have y1 : (q : Int) - 1 < (q : Int) := by omega
    have y2 : ((q : Int) - 1).toNat = q - 1 := by omega
    have y3 : (0 : Int) < (q : Int) := by omega
    have wl : IntKind.i64.wrap (nth B (q - 1) - 1) = nth B (q - 1) - 1 := IntWalk.i64_in _ (by omega)
    have wf : IntKind.i64.wrap (nth B 0 + 1) = nth B 0 + 1 := IntWalk.i64_in _ (by omega)
    have wm : IntKind.i64.wrap ((m : Int) - 1) = (m : Int) - 1 := IntWalk.i64_in _ (by omega)
    have y4 : (0 : Int) ≤ (m : Int) - 1 := by omega
    clear hq
    refine lay_start ?_
    go_enter Tryz.func33, Tryz.ntmps33
    go_wp2_with fail
    refine (HBad.out _ (HS.out.lay _)).mono ?_
    rintro e w' ⟨vb, db, rfl, rfl, hvb⟩
    obtain ⟨gb, cb, rfl, hgb, hgb2, -⟩ := hvb.form1 (by rw [HQ.out]; omega)
    have kb0 : (lay w [.inr db, .inl (.cells #[.slice (some ⟨b, o, none⟩) m cap, .bool wr] 59 (0, 0))]).cell? ⟨gb, 0, none⟩ = some (.int .i64 (nth B 0)) := hvb.cell (by rw [HQ.out]; omega)
    have kb1 : (lay w [.inr db, .inl (.cells #[.slice (some ⟨b, o, none⟩) m cap, .bool wr] 59 (0, 0))]).cell? ⟨gb, q - 1, none⟩ = some (.int .i64 (nth B (q - 1))) := hvb.cell (by rw [HQ.out]; omega)
    have kb2 : ∀ d, (lay w [.inr d, .inr db, .inl (.cells #[.slice (some ⟨b, o, none⟩) m cap, .bool wr] 59 (0, 0))]).cell? ⟨gb, 0, none⟩ = some (.int .i64 (nth B 0)) := fun d => (hvb.bw d).cell (by rw [HQ.out]; omega)
    have kb3 : ∀ d1 d2, (lay w [.inr d1, .inr d2, .inr db, .inl (.cells #[.slice (some ⟨b, o, none⟩) m cap, .bool wr] 59 (0, 0))]).cell? ⟨gb, 0, none⟩ = some (.int .i64 (nth B 0)) := fun d1 d2 => ((hvb.bw d2).bw d1).cell (by rw [HQ.out]; omega)
    rw [lay_bw] at hvb
    rw [lay_bw, HQ.out] 
    have HVB := Lib.hid hvb
    clear hvb hgb
    generalize nth B (q - 1) = LB at *
    generalize nth B 0 = FB at *
    go_wp2_with fail
    go_loopw [6, 7] (fun v6 v7 wr' => ∃ (k : Nat) (d : Ext), lo ≤ k ∧ (k ≤ hi ∨ k = lo) ∧ v7 = .int .i64 (k : Int) ∧ wr' = lay w [.inr d, .inr db, .inl (.cells #[.slice (some ⟨b, o, none⟩) m cap, .bool wr] 59 (0, 0))] ∧
      Ow (lay w [.inr d, .inr db, .inl (.cells #[.slice (some ⟨b, o, none⟩) m cap, .bool wr] 59 (0, 0))]) (lay w [.inr db, .inl (.cells #[.slice (some ⟨b, o, none⟩) m cap, .bool wr] 59 (0, 0))]).heap.size v6 (reps wr l bend lo k)) (fun _ v7 _ => hi - (intOf v7).toNat)
    case atStart => exact ⟨lo, noExt _, Nat.le_refl _, .inr rfl, rfl, (bw_noExt _).symm, by rw [reps_self _ _ _ _ _ (Nat.le_refl _)]; exact Ow.nil _ _⟩
    case round =>
      obtain ⟨k, d1, hk, hk2, rfl, rfl, hO⟩ := hrel
      by_cases hlt : k < hi
      · have hst := reps_step wr l bend lo k hk
        have hrl := reps_len wr l bend lo k
        have hx : decide ((k : Int) ≤ (hi : Int) - 1) = true := decide_eq_true (by omega)
        have HO := Lib.hid hO
        have HR := Lib.hid (fun W h => HRep.out W k (by omega) h)
        clear hO hk2
        generalize reps wr l bend lo k = R at *
        generalize repL wr l bend k = RL at *
        go_wp2_with fail
        refine region_bw (by kernel_rfl) (by kernel_rfl) ?_
        repeat (go_big_quiet_step ((first | fail)))
        refine wpQuiet_nil ?_
        rintro w' ⟨d, rfl⟩
        rw [lay_bw]
        go_wp2_with fail
        refine (HR.out _ (HS.out.lay _)).mono ?_
        rintro e w' ⟨vr, dr, rfl, rfl, hvr⟩
        obtain ⟨ra, rc, rfl⟩ := hvr.form
        rw [lay_bw]
        clear hvr
        by_cases hRL : RL = []
        · subst hRL
          have HST : Hid (reps wr l bend lo (k + 1) = R) := Lib.hid (by rw [hst]; simp)
          clear hst
          go_wp2_with fail
          go_roundw
          case rel => exact ⟨k + 1, _, by omega, .inl (by omega), by go_num, Classical.choose_spec (lay_fold w [_, _, _] [.inr db, .inl (.cells #[.slice (some ⟨b, o, none⟩) m cap, .bool wr] 59 (0, 0))]), by rw [← Classical.choose_spec (lay_fold w [_, _, _] [.inr db, .inl (.cells #[.slice (some ⟨b, o, none⟩) m cap, .bool wr] 59 (0, 0))]), HST.out]; exact ow_on (A := [_, _]) HO.out⟩
          case measure => simp [intOf]; omega
        · have HST : Hid (reps wr l bend lo (k + 1) = R ++ [(k : Int)]) := Lib.hid (by rw [hst, if_neg hRL])
          have hz2 : 0 < RL.length := List.length_pos_iff.2 hRL
          have hz3 : decide ((0 : Int) < (RL.length : Int)) = true := decide_eq_true (by omega)
          clear hst hRL
          generalize RL.length = rl at *
          go_wp2_with (at_builtin; refine push_int rfl _ _ rfl (lay w [.inr db, .inl (.cells #[.slice (some ⟨b, o, none⟩) m cap, .bool wr] 59 (0, 0))]) _ ((k : Int)) 3 _ _ _ ?_ (ow_on (A := [_, _, _]) HO.out) ?_ rfl rfl (by omega) (lit_nat (by omega)) ?_; exact lay_below (A := [_, _, _, _]); exact lay_get w _ 0 _ rfl; intro v' d' hv')
          go_roundw
          case rel => exact ⟨k + 1, d', by omega, .inl (by omega), by go_num, rfl, by rw [HST.out]; exact hv'⟩
          case measure => simp [intOf]; omega
      · have hkh : reps wr l bend lo k = reps wr l bend lo hi := by
          rcases hk2 with h | h
          · rw [show k = hi by omega]
          · rw [reps_self _ _ _ _ _ (by omega), reps_self _ _ _ _ _ (by omega)]
        rw [hkh] at hO
        have hx : decide ((k : Int) ≤ (hi : Int) - 1) = false := decide_eq_false (by omega)
        have HSU : Hid (sus2 wr l bend lo hi B = if reps wr l bend lo hi = [] then B else reps wr l bend lo hi) := Lib.hid rfl
        generalize reps wr l bend lo hi = R at *
        obtain ⟨oa, oc, rfl⟩ := hO.form
        have HO := Lib.hid hO
        clear hO hkh hk2
        by_cases hR : R = []
        · have HSU : Hid (sus2 wr l bend lo hi B = B) := Lib.hid (by rw [HSU.out, if_pos hR])
          subst hR
          go_wp2_with fail
          refine region_bw (by kernel_rfl) (by kernel_rfl) ?_
          repeat (go_big_quiet_step ((first | fail)))
          refine wpQuiet_nil ?_
          rintro w' ⟨d, rfl⟩
          rw [lay_bw]
          go_wp2
          go_ret
          obtain ⟨z, hz⟩ := lay_ex w [.inr d, .inr d1, .inr db, .inl (.cells #[.slice (some ⟨b, o, none⟩) m cap, .bool wr] 59 (0, 0))]
          have h := ow_on (A := [.inr d, .inr d1]) HVB.out
          rw [HQ.out] at h
          exact ⟨_, z, rfl, hz, by rw [← hz, HSU.out]; exact h.le (lay_extends w _).size⟩
        · have HSU : Hid (sus2 wr l bend lo hi B = R) := Lib.hid (by rw [HSU.out, if_neg hR])
          have hz2 : 0 < R.length := List.length_pos_iff.2 hR
          have hz3 : ((R.length : Int) == 0) = false := beq_eq_false_iff_ne.2 (by omega)
          obtain ⟨rl, hrl⟩ : ∃ rl, R.length = rl := ⟨_, rfl⟩
          rw [hrl] at hz2 hz3 HO ⊢
          clear hrl hR
          go_wp2_with fail
          refine region_bw (by kernel_rfl) (by kernel_rfl) ?_
          repeat (go_big_quiet_step ((first | fail)))
          refine wpQuiet_nil ?_
          rintro w' ⟨d, rfl⟩
          rw [lay_bw]
          go_wp2
          go_ret
          obtain ⟨z, hz⟩ := lay_ex w [.inr d, .inr d1, .inr db, .inl (.cells #[.slice (some ⟨b, o, none⟩) m cap, .bool wr] 59 (0, 0))]
          have h := ow_on (A := [.inr d]) HO.out
          exact ⟨_, z, rfl, hz, by rw [← hz, HSU.out]; exact h.le (lay_extends w _).size⟩
end Go.Proofs.YtmmfkleplbofgaaGreatDoor
/- audit: given, Possible, Repair. -/
namespace Go.Proofs.YtmmfkleplbofgaaGreatDoor
open Go.RowKit

/-- The error of a list, or of a bend. -/
def gvE (wr : Bool) (l : List Int) (bend : Int) : Int := if givE wr l = 0 then (if 0 ≤ bend ∧ bend ≤ 1000 then 0 else 2) else givE wr l
theorem gvE_0 {wr : Bool} {l : List Int} {bend : Int} : gvE wr l bend = 0 ↔ Giv wr l ∧ 0 ≤ bend ∧ bend ≤ 1000 := by
  unfold gvE
  rw [← giv_iff]
  constructor
  · intro h
    split at h
    · rename_i h1
      split at h
      · rename_i h2; exact ⟨h1, h2⟩
      · cases h
    · rename_i h1; exact absurd h h1
  · rintro ⟨h1, h2⟩
    rw [if_pos h1, if_pos h2]
set_option maxHeartbeats 1000000 in
theorem aud_given (v : Value) (l : List Int) (wr : Bool) (bend : Int) (w : World) (hs : Sl w v l) :
    Calls Tryz.prog 28 #[v, .int .i64 bend, .bool wr] w fun e w' => e = .returned (.tuple #[.agg #[v, .bool wr], .int .i64 (gvE wr l bend)]) ∧ ∃ d, w' = bw w d := by
  have HC := Lib.hid (fun W (h : Sl W v l) => aud_check v l wr W h)
  have HS := Lib.hid hs
  obtain ⟨a, cap, rfl, -⟩ := hs
  unfold gvE
  generalize l.length = m at *
  generalize givE wr l = E at *
  by_cases h0 : E = 0
  · subst h0
    rw [if_pos rfl]
    by_cases h1 : bend < 0
    · rw [if_neg (by omega)]
      have t1 : decide (bend < 0) = true := decide_eq_true h1
      refine lay_start ?_
      go_enter Tryz.func28, Tryz.ntmps28
      go_wp2_with (go_at_call 26; refine (HC.out _ (HS.out.lay _)).mono ?_; rintro e w' ⟨rfl, d, rfl⟩)
      exact bodyPost_ret (v := .tuple #[.agg #[.slice a m cap, .bool wr], .int .i64 2]) (by simp [results, Tryz.results28, go_sem]) rfl ⟨rfl, lay_ex _ _⟩
    · have t1 : decide (bend < 0) = false := decide_eq_false h1
      by_cases h2 : 1000 < bend
      · rw [if_neg (by omega)]
        have t2 : decide (1000 < bend) = true := decide_eq_true h2
        refine lay_start ?_
        go_enter Tryz.func28, Tryz.ntmps28
        go_wp2_with (go_at_call 26; refine (HC.out _ (HS.out.lay _)).mono ?_; rintro e w' ⟨rfl, d, rfl⟩)
        exact bodyPost_ret (v := .tuple #[.agg #[.slice a m cap, .bool wr], .int .i64 2]) (by simp [results, Tryz.results28, go_sem]) rfl ⟨rfl, lay_ex _ _⟩
      · rw [if_pos (by omega)]
        have t2 : decide (1000 < bend) = false := decide_eq_false h2
        refine lay_start ?_
        go_enter Tryz.func28, Tryz.ntmps28
        go_wp2_with (go_at_call 26; refine (HC.out _ (HS.out.lay _)).mono ?_; rintro e w' ⟨rfl, d, rfl⟩)
        exact bodyPost_ret (v := .tuple #[.agg #[.slice a m cap, .bool wr], .int .i64 0]) (by simp [results, Tryz.results28, go_sem]) rfl ⟨rfl, lay_ex _ _⟩
  · rw [if_neg h0]
    have t1 : (E == 0) = false := beq_eq_false_iff_ne.2 h0
    refine lay_start ?_
    go_enter Tryz.func28, Tryz.ntmps28
    go_wp2_with (go_at_call 26; refine (HC.out _ (HS.out.lay _)).mono ?_; rintro e w' ⟨rfl, d, rfl⟩)
    exact bodyPost_ret (v := .tuple #[.agg #[.slice a m cap, .bool wr], .int .i64 E]) (by simp [results, Tryz.results28, go_sem]) rfl ⟨rfl, lay_ex _ _⟩
/-- What Possible says of a list that may be one. -/
def posB (wr : Bool) (l : List Int) (bend : Int) : Bool := decide (gvE wr l bend = 0) && (badL wr l bend 1 (l.length - 1)).isEmpty
def posK (wr : Bool) (l : List Int) (bend : Int) : Int := if gvE wr l bend = 0 then (if badL wr l bend 1 (l.length - 1) = [] then -1 else nth (badL wr l bend 1 (l.length - 1)) 0) else 0
set_option maxHeartbeats 1000000 in
theorem aud_Possible (v : Value) (l : List Int) (wr : Bool) (bend : Int) (w : World) (hs : Sl w v l) :
    Calls Tryz.prog 12 #[v, .int .i64 bend, .bool wr] w fun e w' => e = .returned (.tuple #[.bool (posB wr l bend), .int .i64 (posK wr l bend), .int .i64 (gvE wr l bend)]) ∧ ∃ d, w' = bw w d := by
  have HGv := Lib.hid (fun W (h : Sl W v l) => aud_given v l wr bend W h)
  have HS := Lib.hid hs
  unfold posB posK
  by_cases h0 : gvE wr l bend = 0
  · obtain ⟨hg, b0, b1⟩ := gvE_0.1 h0
    have HBad := Lib.hid (fun W (h : Sl W v l) => aud_bad v l wr bend 0 (l.length : Int) 1 (l.length - 1) W h hg b0 b1 (by decide) (by unfold mn; have := hg.n3; split <;> omega))
    rw [h0] at HGv ⊢
    obtain ⟨a, cap, rfl, -⟩ := hs
    clear h0 hg
    generalize badL wr l bend 1 (l.length - 1) = B at *
    generalize l.length = m at *
    by_cases hz : B = []
    · subst hz
      rw [if_pos rfl, if_pos rfl]
      refine lay_start ?_
      go_enter Tryz.func12, Tryz.ntmps12
      go_wp2_with (go_at_call 28; refine (HGv.out _ (HS.out.lay _)).mono ?_; rintro e w' ⟨rfl, d, rfl⟩)
      refine (HBad.out _ (HS.out.lay _)).mono ?_
      rintro e w' ⟨vb, db, rfl, rfl, hvb⟩
      obtain ⟨ba, bc, rfl⟩ := hvb.form
      rw [lay_bw]
      clear hvb
      go_wp2
      exact bodyPost_ret (v := .tuple #[.bool true, .int .i64 (-1), .int .i64 0]) (by simp [results, Tryz.results12, go_sem]) rfl ⟨rfl, lay_ex _ _⟩
    · rw [if_pos rfl, if_neg hz, show B.isEmpty = false by simpa using hz, Bool.and_false]
      have hpos : 0 < B.length := List.length_pos_iff.2 hz
      have hd : decide ((0 : Int) < (B.length : Int)) = true := decide_eq_true (by omega)
      have hd2 : (0 : Int) < (B.length : Int) := by omega
      refine lay_start ?_
      go_enter Tryz.func12, Tryz.ntmps12
      go_wp2_with (go_at_call 28; refine (HGv.out _ (HS.out.lay _)).mono ?_; rintro e w' ⟨rfl, d, rfl⟩)
      refine (HBad.out _ (HS.out.lay _)).mono ?_
      rintro e w' ⟨vb, db, rfl, rfl, hvb⟩
      obtain ⟨gb, bc, rfl, -⟩ := hvb.form1 hpos
      have k0 := hvb.cell (i := 0) hpos
      have k1 := fun d => (hvb.bw d).cell (i := 0) hpos
      simp only [lay_bw] at k1
      rw [lay_bw] at k0 ⊢
      clear hvb
      generalize B.length = q at *
      go_wp2_with fail
      refine region_bw (by kernel_rfl) (by kernel_rfl) ?_
      repeat (go_big_quiet_step ((first | fail)))
      refine wpQuiet_nil ?_
      rintro w' ⟨d, rfl⟩
      rw [lay_bw]
      go_wp2
      exact bodyPost_ret (v := .tuple #[.bool false, .int .i64 (nth B 0), .int .i64 0]) (by simp [results, Tryz.results12, go_sem]) rfl ⟨rfl, lay_ex _ _⟩
  · rw [if_neg h0, decide_eq_false h0, Bool.false_and]
    obtain ⟨a, cap, rfl, -⟩ := hs
    have t1 : (gvE wr l bend == 0) = false := beq_eq_false_iff_ne.2 h0
    generalize gvE wr l bend = E at *
    clear h0
    refine lay_start ?_
    go_enter Tryz.func12, Tryz.ntmps12
    go_wp2_with (go_at_call 28; refine (HGv.out _ (HS.out.lay _)).mono ?_; rintro e w' ⟨rfl, d, rfl⟩)
    exact bodyPost_ret (v := .tuple #[.bool false, .int .i64 0, .int .i64 E]) (by simp [results, Tryz.results12, go_sem]) rfl ⟨rfl, lay_ex _ _⟩
/-- The call returns a row of its own, and an error. -/
def RwE (w : World) (l : List Int) (c : Int) (e : Ending) (w' : World) : Prop := ∃ v d, e = .returned (.tuple #[v, .int .i64 c]) ∧ w' = bw w d ∧ Ow (bw w d) w.heap.size v l
/-- What Repair returns. -/
def rprE (wr : Bool) (l : List Int) (bend at_ : Int) : Int :=
  if gvE wr l bend = 0 then (if 0 ≤ at_ ∧ at_ < l.length then (if repL wr l bend at_.toNat = [] then 12 else if 1000 < (repL wr l bend at_.toNat).length then 4 else 0) else 2) else gvE wr l bend
def rprL (wr : Bool) (l : List Int) (bend at_ : Int) : List Int := if rprE wr l bend at_ = 0 then repL wr l bend at_.toNat else []
set_option maxHeartbeats 1000000 in
theorem aud_Repair (v : Value) (l : List Int) (wr : Bool) (bend at_ : Int) (w : World) (hs : Sl w v l) :
    Calls Tryz.prog 13 #[v, .int .i64 bend, .int .i64 at_, .bool wr] w (RwE w (rprL wr l bend at_) (rprE wr l bend at_)) := by
  have HGv := Lib.hid (fun W (h : Sl W v l) => aud_given v l wr bend W h)
  have HS := Lib.hid hs
  unfold rprL
  have hE : rprE wr l bend at_ = if gvE wr l bend = 0 then (if 0 ≤ at_ ∧ at_ < l.length then (if repL wr l bend at_.toNat = [] then 12 else if 1000 < (repL wr l bend at_.toNat).length then 4 else 0) else 2) else gvE wr l bend := rfl
  by_cases h0 : gvE wr l bend = 0
  · obtain ⟨hg, b0, b1⟩ := gvE_0.1 h0
    rw [if_pos h0] at hE
    rw [h0] at HGv
    by_cases ha : 0 ≤ at_ ∧ at_ < l.length
    · obtain ⟨k, rfl⟩ := Int.eq_ofNat_of_zero_le ha.1
      have HR := Lib.hid (fun W (h : Sl W v l) => aud_repairs v l wr bend k W h hg b0 b1 (by omega))
      rw [if_pos ha, Int.toNat_natCast] at hE
      rw [Int.toNat_natCast]
      have t1 : (k : Int) < (l.length : Int) := ha.2
      obtain ⟨a, cap, rfl, -⟩ := hs
      clear h0 hg ha
      generalize repL wr l bend k = R at *
      generalize l.length = m at *
      have t0 : (0 : Int) ≤ (k : Int) := by omega
      by_cases hz : R = []
      · rw [if_pos hz] at hE
        subst hz
        rw [hE, if_neg (by decide)]
        refine lay_start ?_
        go_enter Tryz.func13, Tryz.ntmps13
        go_wp2_with (go_at_call 28; refine (HGv.out _ (HS.out.lay _)).mono ?_; rintro e w' ⟨rfl, d, rfl⟩)
        refine (HR.out _ (HS.out.lay _)).mono ?_
        rintro e w' ⟨vb, db, rfl, rfl, hvb⟩
        obtain ⟨ba, bc, rfl⟩ := hvb.form
        rw [lay_bw]
        clear hvb
        go_wp2
        obtain ⟨z, hz⟩ := lay_exb w [.inl (.cells #[.slice a m cap, .bool wr] 59 (0, 0)), .inr d] db
        exact bodyPost_ret (v := .tuple #[.slice none 0 0, .int .i64 12]) (by simp [results, Tryz.results13, go_sem]) rfl ⟨_, z, rfl, hz, Ow.nil _ _⟩
      · rw [if_neg hz] at hE
        have hpos : 0 < R.length := List.length_pos_iff.2 hz
        have hq : ((R.length : Int) == 0) = false := beq_eq_false_iff_ne.2 (by omega)
        by_cases hb : 1000 < R.length
        · rw [if_pos hb] at hE
          rw [hE, if_neg (by decide)]
          have hd : decide ((1000 : Int) < (R.length : Int)) = true := decide_eq_true (by omega)
          clear hz
          refine lay_start ?_
          go_enter Tryz.func13, Tryz.ntmps13
          go_wp2_with (go_at_call 28; refine (HGv.out _ (HS.out.lay _)).mono ?_; rintro e w' ⟨rfl, d, rfl⟩)
          refine (HR.out _ (HS.out.lay _)).mono ?_
          rintro e w' ⟨vb, db, rfl, rfl, hvb⟩
          obtain ⟨ba, bc, rfl⟩ := hvb.form
          rw [lay_bw]
          clear hvb
          generalize R.length = q at *
          go_wp2
          obtain ⟨z, hz⟩ := lay_exb w [.inl (.cells #[.slice a m cap, .bool wr] 59 (0, 0)), .inr d] db
          exact bodyPost_ret (v := .tuple #[.slice none 0 0, .int .i64 4]) (by simp [results, Tryz.results13, go_sem]) rfl ⟨_, z, rfl, hz, Ow.nil _ _⟩
        · rw [if_neg hb] at hE
          rw [hE, if_pos rfl]
          have hd : decide ((1000 : Int) < (R.length : Int)) = false := decide_eq_false (by omega)
          clear hz
          refine lay_start ?_
          go_enter Tryz.func13, Tryz.ntmps13
          go_wp2_with (go_at_call 28; refine (HGv.out _ (HS.out.lay _)).mono ?_; rintro e w' ⟨rfl, d, rfl⟩)
          refine (HR.out _ (HS.out.lay _)).mono ?_
          rintro e w' ⟨vb, db, rfl, rfl, hvb⟩
          obtain ⟨ba, bc, rfl⟩ := hvb.form
          rw [lay_bw]
          have HV := Lib.hid hvb
          clear hvb
          obtain ⟨q, hqq⟩ : ∃ q, R.length = q := ⟨_, rfl⟩
          rw [hqq] at hq hd HV hpos ⊢
          clear hqq
          go_wp2
          obtain ⟨z, hz⟩ := lay_exb w [.inl (.cells #[.slice a m cap, .bool wr] 59 (0, 0)), .inr d] db
          have h := HV.out
          rw [hz] at h
          exact bodyPost_ret (v := .tuple #[.slice ba q bc, .int .i64 0]) (by simp [results, Tryz.results13, go_sem]) rfl ⟨_, z, rfl, hz, h.le (lay_extends w _).size⟩
    · rw [if_neg ha] at hE
      rw [hE, if_neg (by decide)]
      obtain ⟨a, cap, rfl, -⟩ := hs
      generalize l.length = m at *
      clear hE h0 hg
      by_cases h1 : at_ < 0
      · have t1 : decide (at_ < 0) = true := decide_eq_true h1
        refine lay_start ?_
        go_enter Tryz.func13, Tryz.ntmps13
        go_wp2_with (go_at_call 28; refine (HGv.out _ (HS.out.lay _)).mono ?_; rintro e w' ⟨rfl, d, rfl⟩)
        obtain ⟨z, hz⟩ := lay_ex w [.inl (.cells #[.slice a m cap, .bool wr] 59 (0, 0)), .inr d]
        exact bodyPost_ret (v := .tuple #[.slice none 0 0, .int .i64 2]) (by simp [results, Tryz.results13, go_sem]) rfl ⟨_, z, rfl, hz, Ow.nil _ _⟩
      · have t1 : decide (at_ < 0) = false := decide_eq_false h1
        have t2 : (m : Int) ≤ at_ := by omega
        refine lay_start ?_
        go_enter Tryz.func13, Tryz.ntmps13
        go_wp2_with (go_at_call 28; refine (HGv.out _ (HS.out.lay _)).mono ?_; rintro e w' ⟨rfl, d, rfl⟩)
        obtain ⟨z, hz⟩ := lay_ex w [.inl (.cells #[.slice a m cap, .bool wr] 59 (0, 0)), .inr d]
        exact bodyPost_ret (v := .tuple #[.slice none 0 0, .int .i64 2]) (by simp [results, Tryz.results13, go_sem]) rfl ⟨_, z, rfl, hz, Ow.nil _ _⟩
  · rw [if_neg h0] at hE
    rw [hE, if_neg h0]
    obtain ⟨a, cap, rfl, -⟩ := hs
    have t1 : (gvE wr l bend == 0) = false := beq_eq_false_iff_ne.2 h0
    clear hE h0
    generalize gvE wr l bend = E at *
    generalize l.length = m at *
    refine lay_start ?_
    go_enter Tryz.func13, Tryz.ntmps13
    go_wp2_with (go_at_call 28; refine (HGv.out _ (HS.out.lay _)).mono ?_; rintro e w' ⟨rfl, d, rfl⟩)
    obtain ⟨z, hz⟩ := lay_ex w [.inl (.cells #[.slice a m cap, .bool wr] 59 (0, 0)), .inr d]
    exact bodyPost_ret (v := .tuple #[.slice none 0 0, .int .i64 E]) (by simp [results, Tryz.results13, go_sem]) rfl ⟨_, z, rfl, hz, Ow.nil _ _⟩
end Go.Proofs.YtmmfkleplbofgaaGreatDoor

/- Contracts and plain laws, several texts in one: Aud4; Aud5; APlain2; Aud6 -/
import Derived.Test.YtmmfkleplbofgaaGreatDoorProg
import Derived.WalkKit
import Derived.WalkSpells
import Derived.WalkLawsBesides
import Derived.Lib.Hide
import Derived.BigQuiet
import Derived.Lib.SlicesCompact
import Derived.Test.YtmmfkleplbofgaaGreatDoorBAA
import Derived.Test.YtmmfkleplbofgaaGreatDoorBAB
import Derived.Test.YtmmfkleplbofgaaGreatDoorBAC
import Derived.Test.YtmmfkleplbofgaaGreatDoorBAD
/- audit: with; the closures of repairs and candidates. -/
namespace Go.Proofs.YtmmfkleplbofgaaGreatDoor
open Go.RowKit

/-- A series that a call made: its list is a row of the call's own. -/
def RwS (w : World) (wr : Bool) (l : List Int) (e : Ending) (w' : World) : Prop := ∃ v d, e = .returned (.agg #[v, .bool wr]) ∧ w' = bw w d ∧ Ow (bw w d) w.heap.size v l
set_option maxHeartbeats 1000000 in
theorem aud_with (v : Value) (l : List Int) (wr : Bool) (at_ : Nat) (x : Int) (w : World) (hs : Sl w v l) (ha : at_ < l.length) (hn : l.length ≤ 1000) (hx : (Lit.int .i64 x).wf = true) :
    Calls Tryz.prog 48 #[.agg #[v, .bool wr], .int .i64 (at_ : Int), .int .i64 x] w (RwS w wr (l.set at_ x)) := by
  have HS := Lib.hid hs
  obtain ⟨b, o, cap, rfl, -⟩ := hs.open (by omega)
  have HC := Lib.hid (fun W (h : Sl W (.slice (some ⟨b, o, none⟩) l.length cap) l) => sl_Clone _ l W h (by omega) (by omega))
  obtain ⟨m, hm⟩ : ∃ m, l.length = m := ⟨_, rfl⟩
  rw [hm] at HC HS ha hn ⊢
  have HM := Lib.hid hm
  have y0 : (0 : Int) ≤ (at_ : Int) := by omega
  have y1 : (at_ : Int) < (m : Int) := by omega
  clear hm hs
  refine lay_start ?_
  go_enter Tryz.func48, Tryz.ntmps48
  go_wp2_with fail
  refine (HC.out _ (HS.out.lay _)).mono ?_
  rintro e w' ⟨v', d, rfl, rfl, hv⟩
  obtain ⟨g, c, rfl, h1, h2, h3, h4⟩ := hv.form1 (by rw [HM.out]; omega)
  rw [HM.out] at hv h3 ⊢
  have k0 := hv.cell (i := at_) (by rw [HM.out]; omega)
  have k1 := hv.froz at_
  obtain ⟨d', hd'⟩ := bw_store (d := d) (i := at_) (v := .int .i64 x) h1
  have hv2 := ow_store hv at_ x hx
  rw [hd'] at hv2
  rw [lay_bw] at k0 k1
  rw [lay_bw, lay_bw] at hd'
  have HV := Lib.hid hv2
  clear hv hv2 h1 h2
  go_wp2_with fail
  have hsw := ow_swap (.cells #[.slice (some ⟨g, 0, none⟩) m c, .bool wr] 59 (0, 0)) (lay_lt _ _ _) HV.out
  obtain ⟨z, hz⟩ := lay_ex w [.inr d', .inl (.cells #[.slice (some ⟨g, 0, none⟩) m c, .bool wr] 59 (0, 0)), .inl (.cells #[.slice (some ⟨b, o, none⟩) m cap, .bool wr] 59 (0, 0))]
  rw [hz] at hsw
  exact bodyPost_ret (v := .agg #[.slice (some ⟨g, 0, none⟩) m c, .bool wr]) (by simp [results, Tryz.results48, go_sem]) rfl ⟨_, z, rfl, hz, hsw.le (lay_extends w _).size⟩
theorem aud_repairs1 (b : Nat) (at_ x : Int) (w : World) (hb : b < w.heap.size) (c0 : w.cell? ⟨b, 0, none⟩ = some (.int .i64 at_)) (h0 : 0 ≤ at_) (h1 : at_ ≤ 1000) :
    Calls Tryz.prog 47 #[.int .i64 x, .pointer (some ⟨b, 0, none⟩)] w fun e w' => e = .returned (.bool (decide (x < at_ - 1 ∨ at_ + 1 < x))) ∧ ∃ d, w' = bw w d := by
  have w1 : IntKind.i64.wrap (at_ - 1) = at_ - 1 := IntWalk.i64_in _ (by omega)
  have w2 : IntKind.i64.wrap (at_ + 1) = at_ + 1 := IntWalk.i64_in _ (by omega)
  by_cases hlt : x < at_ - 1
  · have t1 : decide (x < at_ - 1) = true := decide_eq_true hlt
    rw [decide_eq_true (Or.inl hlt)]
    refine lay_start ?_
    go_enter Tryz.func47, Tryz.ntmps47
    go_wp2
    go_ret
    exact ⟨rfl, lay_ex _ _⟩
  · have t1 : decide (x < at_ - 1) = false := decide_eq_false hlt
    rw [show decide (x < at_ - 1 ∨ at_ + 1 < x) = decide (at_ + 1 < x) by simp; omega]
    refine lay_start ?_
    go_enter Tryz.func47, Tryz.ntmps47
    go_wp2
    go_ret
    exact ⟨rfl, lay_ex _ _⟩
end Go.Proofs.YtmmfkleplbofgaaGreatDoor
/- audit: the closures of candidates. -/
namespace Go.Proofs.YtmmfkleplbofgaaGreatDoor
open Go.RowKit

theorem cand2 (b o m cap b3 b5 at_ : Nat) (l : List Int) (x : Int) (w : World)
    (c3 : w.cell? ⟨b3, 0, none⟩ = some (.slice (some ⟨b, o, none⟩) m cap)) (c5 : w.cell? ⟨b5, 0, none⟩ = some (.int .i64 ((at_ : Int) + 1))) (ha : at_ < m) (hm : m ≤ 1000)
    (hr : w.cell? ⟨b, o + at_, none⟩ = some (.int .i64 (nth l at_))) (p0 : -1048576 ≤ nth l at_ ∧ nth l at_ ≤ 1048576) (x0 : -100000000 ≤ x ∧ x ≤ 100000000) :
    Calls Tryz.prog 65 #[.int .i64 x, .pointer (some ⟨b3, 0, none⟩), .pointer (some ⟨b5, 0, none⟩)] w fun e w' => e = .returned (.int .i64 (nth l at_ + x)) ∧ w' = w := by
  have y0 : (0 : Int) ≤ (at_ : Int) := by omega
  have y1 : (at_ : Int) < (m : Int) := by omega
  have w1 : IntKind.i64.wrap (nth l at_ + x) = nth l at_ + x := IntWalk.i64_in _ (by omega)
  have w2 : wrap64 (at_ : Int) = (at_ : Int) := IntWalk.wrap64_in _ (by omega)
  generalize nth l at_ = A at *
  go_enter Tryz.func65, Tryz.ntmps65
  go_wp2
  go_ret
  exact ⟨rfl, rfl⟩
theorem cand3 (b o m cap b3 b5 at_ : Nat) (l : List Int) (x : Int) (w : World)
    (c3 : w.cell? ⟨b3, 0, none⟩ = some (.slice (some ⟨b, o, none⟩) m cap)) (c5 : w.cell? ⟨b5, 0, none⟩ = some (.int .i64 (at_ : Int))) (ha : at_ + 1 < m) (hm : m ≤ 1000)
    (hr : w.cell? ⟨b, o + (at_ + 1), none⟩ = some (.int .i64 (nth l (at_ + 1)))) (p0 : -1048576 ≤ nth l (at_ + 1) ∧ nth l (at_ + 1) ≤ 1048576) (x0 : -100000000 ≤ x ∧ x ≤ 100000000) :
    Calls Tryz.prog 66 #[.int .i64 x, .pointer (some ⟨b3, 0, none⟩), .pointer (some ⟨b5, 0, none⟩)] w fun e w' => e = .returned (.int .i64 (nth l (at_ + 1) - x)) ∧ w' = w := by
  have y0 : (0 : Int) ≤ (at_ : Int) + 1 := by omega
  have y1 : (at_ : Int) + 1 < (m : Int) := by omega
  have y2 : ((at_ : Int) + 1).toNat = at_ + 1 := by omega
  have w1 : IntKind.i64.wrap (nth l (at_ + 1) - x) = nth l (at_ + 1) - x := IntWalk.i64_in _ (by omega)
  have w2 : IntKind.i64.wrap ((at_ : Int) + 1) = (at_ : Int) + 1 := IntWalk.i64_in _ (by omega)
  generalize nth l (at_ + 1) = A at *
  go_enter Tryz.func66, Tryz.ntmps66
  go_wp2
  go_ret
  exact ⟨rfl, rfl⟩
theorem cand4 (b o m cap b3 : Nat) (l : List Int) (x : Int) (w : World)
    (c3 : w.cell? ⟨b3, 0, none⟩ = some (.slice (some ⟨b, o, none⟩) m cap)) (ha : 0 < m)
    (hr : w.cell? ⟨b, o + 0, none⟩ = some (.int .i64 (nth l 0))) (p0 : -1048576 ≤ nth l 0 ∧ nth l 0 ≤ 1048576) (x0 : -100000000 ≤ x ∧ x ≤ 100000000) :
    Calls Tryz.prog 67 #[.int .i64 x, .pointer (some ⟨b3, 0, none⟩)] w fun e w' => e = .returned (.int .i64 (nth l 0 + x)) ∧ w' = w := by
  have y1 : (0 : Int) < (m : Int) := by omega
  have w1 : IntKind.i64.wrap (nth l 0 + x) = nth l 0 + x := IntWalk.i64_in _ (by omega)
  rw [Nat.add_zero] at hr
  generalize nth l 0 = A at *
  go_enter Tryz.func67, Tryz.ntmps67
  go_wp2
  go_ret
  exact ⟨rfl, rfl⟩
theorem cand5 (b o m cap b3 : Nat) (l : List Int) (x : Int) (w : World)
    (c3 : w.cell? ⟨b3, 0, none⟩ = some (.slice (some ⟨b, o, none⟩) m cap)) (ha : 0 < m)
    (hr : w.cell? ⟨b, o + 0, none⟩ = some (.int .i64 (nth l 0))) (p0 : -1048576 ≤ nth l 0 ∧ nth l 0 ≤ 1048576) (x0 : -100000000 ≤ x ∧ x ≤ 100000000) :
    Calls Tryz.prog 68 #[.int .i64 x, .pointer (some ⟨b3, 0, none⟩)] w fun e w' => e = .returned (.int .i64 (nth l 0 + x)) ∧ w' = w := by
  have y1 : (0 : Int) < (m : Int) := by omega
  have w1 : IntKind.i64.wrap (nth l 0 + x) = nth l 0 + x := IntWalk.i64_in _ (by omega)
  rw [Nat.add_zero] at hr
  generalize nth l 0 = A at *
  go_enter Tryz.func68, Tryz.ntmps68
  go_wp2
  go_ret
  exact ⟨rfl, rfl⟩
/-- What 'add' adds at a step. -/
def addK (wr : Bool) (F : Int → Int) (k : Int) : List Int := if (permB wr (frm wr (F k)) && (!wr || (decide (0 ≤ k) && decide (k < 216000)))) = true then [frm wr (F k)] else []
def addL (wr : Bool) (F : Int → Int) (from_ : Int) : Nat → List Int
  | 0 => []
  | j + 1 => addL wr F from_ j ++ addK wr F (from_ + j)
theorem addK_len (wr : Bool) (F : Int → Int) (k : Int) : (addK wr F k).length ≤ 1 := by unfold addK; split <;> simp
theorem addL_len (wr : Bool) (F : Int → Int) (from_ : Int) : ∀ j, (addL wr F from_ j).length ≤ j
  | 0 => by simp [addL]
  | j + 1 => by have := addL_len wr F from_ j; have := addK_len wr F (from_ + j); simp only [addL, List.length_append]; omega
theorem mem_addK {wr : Bool} {F : Int → Int} {k x : Int} : x ∈ addK wr F k ↔ x = frm wr (F k) ∧ permB wr x = true ∧ (wr = true → 0 ≤ k ∧ k < 216000) := by
  unfold addK
  split
  · rename_i h
    rw [List.mem_singleton]
    rw [Bool.and_eq_true] at h
    constructor
    · rintro rfl
      refine ⟨rfl, h.1, fun hw => ?_⟩
      subst hw
      simpa using h.2
    · exact fun h => h.1
  · rename_i h
    constructor
    · exact fun h => absurd h (List.not_mem_nil)
    · rintro ⟨h1, h2, h3⟩
      refine absurd ?_ h
      rw [Bool.and_eq_true]
      subst h1
      refine ⟨h2, ?_⟩
      cases wr
      · rfl
      · have := h3 rfl
        simp; omega
theorem mem_addL {wr : Bool} {F : Int → Int} {from_ x : Int} : ∀ {j : Nat}, x ∈ addL wr F from_ j ↔ ∃ i : Nat, i < j ∧ x ∈ addK wr F (from_ + i)
  | 0 => by simp [addL]
  | j + 1 => by
    simp only [addL, List.mem_append, mem_addL (j := j)]
    constructor
    · rintro (⟨i, h1, h2⟩ | h)
      · exact ⟨i, by omega, h2⟩
      · exact ⟨j, by omega, h⟩
    · rintro ⟨i, h1, h2⟩
      by_cases e : i = j
      · subst e; exact .inr h2
      · exact .inl ⟨i, by omega, h2⟩
/-- What 'add' leaves: the row is longer, the captured variable holds it. -/
def AddPost (w : World) (l : List Int) (e : Ending) (w' : World) : Prop :=
  ∃ v d, e = .returned (.tuple #[]) ∧ w' = lay w [.inr d, .inl (.cells #[v] 29 (0, 0))] ∧ Ow (lay w [.inr d, .inl (.cells #[v] 29 (0, 0))]) (lay w [.inl (.cells #[.slice none 0 0] 29 (0, 0))]).heap.size v l
theorem Ow.form0 {w : World} {base : Nat} {v : Value} {l : List Int} (h : Ow w base v l) : ∃ a n cap, v = .slice a n cap := by obtain ⟨a, c, e⟩ := h.form; exact ⟨a, _, c, e⟩
theorem Ow.base {w : World} {b b' : Nat} {v : Value} {l : List Int} (h : Ow w b v l) (e : b = b') : Ow w b' v l := e ▸ h
theorem box_size (w : World) (v v' : Value) : (lay w [.inl (.cells #[v] 29 (0, 0))]).heap.size = (lay w [.inl (.cells #[v'] 29 (0, 0))]).heap.size := by
  show (World.alloc _ _).heap.size = (World.alloc _ _).heap.size
  rw [World.size_alloc, World.size_alloc]
set_option maxHeartbeats 4000000 in
set_option maxRecDepth 100000 in
theorem aud_add (g : FuncId) (lb : List Value) (F : Int → Int) (a : Option Addr) (n cap b3 : Nat) (wr : Bool) (from_ to_ : Int) (cnt : Nat) (v : Value) (l : List Int) (w : World) (d : Ext)
    (eI : ∀ args w, (callFunc g args).run Tryz.prog w = .ok (.enter g args) w)
    (h3 : b3 < w.heap.size) (c3 : w.cell? ⟨b3, 0, none⟩ = some (.slice a n cap)) (c3' : w.cell? ⟨b3, 1, none⟩ = some (.bool wr))
    (hf : ∀ k, -10000000 ≤ k → k ≤ 10000000 → ∀ L, Calls Tryz.prog g (.int .i64 k :: lb).toArray (lay w L) fun e w' => e = .returned (.int .i64 (F k)) ∧ w' = lay w L)
    (hF : ∀ k, -10000000 ≤ k → k ≤ 10000000 → -1000000000 ≤ F k ∧ F k ≤ 1000000000)
    (h0 : -5000000 ≤ from_) (h1 : to_ ≤ 5000000) (hc : (cnt : Int) = to_ - from_ + 1) (hl : l.length ≤ 100000)
    (hown : Ow (lay w [.inr d, .inl (.cells #[v] 29 (0, 0))]) (lay w [.inl (.cells #[.slice none 0 0] 29 (0, 0))]).heap.size v l) :
    Calls Tryz.prog 64 #[.int .i64 from_, .int .i64 to_, .func (.func g) #[] lb.toArray, .pointer (some ⟨b3, 0, none⟩), .pointer (some ⟨posn w [], 0, none⟩)] (lay w [.inr d, .inl (.cells #[v] 29 (0, 0))]) (AddPost w (l ++ addL wr F from_ cnt)) := by
  have HF := Lib.hid hf
  have HB := Lib.hid hF
  have HO := Lib.hid hown
  clear hf hF hown
  go_enter Tryz.func64, Tryz.ntmps64
  go_wp2_with fail
  go_loopw [8] (fun vk wr' => ∃ (j : Nat) (v : Value) (d : Ext), j ≤ cnt ∧ vk = .int .i64 (from_ + (j : Int)) ∧ wr' = lay w [.inr d, .inl (.cells #[v] 29 (0, 0))] ∧
      Ow (lay w [.inr d, .inl (.cells #[v] 29 (0, 0))]) (lay w [.inl (.cells #[.slice none 0 0] 29 (0, 0))]).heap.size v (l ++ addL wr F from_ j)) (fun vk _ => (to_ + 1 - intOf vk).toNat)
  case atStart => exact ⟨0, v, d, Nat.zero_le _, by simp, rfl, by simpa [addL] using HO.out⟩
  case round =>
    obtain ⟨j, v, d, hj, rfl, rfl, hown⟩ := hrel
    by_cases hlt : j < cnt
    · have hst : addL wr F from_ (j + 1) = addL wr F from_ j ++ addK wr F (from_ + j) := rfl
      have hll := addL_len wr F from_ j
      obtain ⟨k, hk⟩ : ∃ k, from_ + (j : Int) = k := ⟨_, rfl⟩
      rw [hk] at hst ⊢
      have x1 : k ≤ to_ := by omega
      have hFk := HB.out k (by omega) (by omega)
      have H1 := Lib.hid (HF.out k (by omega) (by omega))
      have wk : IntKind.i64.wrap (k + 1) = k + 1 := IntWalk.i64_in _ (by omega)
      have H2 := Lib.hid (fun W => aud_form a n cap wr (F k) W)
      have H3 := Lib.hid (fun W => aud_permits a n cap wr (frm wr (F k)) W)
      have hC : addK wr F k = if (permB wr (frm wr (F k)) && (!wr || (decide (0 ≤ k) && decide (k < 216000)))) = true then [frm wr (F k)] else [] := rfl
      rw [hC] at hst
      have hwf : permB wr (frm wr (F k)) = true → (Lit.int .i64 (frm wr (F k))).wf = true := fun h => by
        have := perm_bd h
        simp [Lit.wf, IntKind.min, IntKind.max, IntKind.bits, IntKind.signed]; omega
      clear hC HF HB hFk
      have HR : Hid (Ow (lay w [.inr d, .inl (.cells #[v] 29 (0, 0))]) (lay w [.inl (.cells #[.slice none 0 0] 29 (0, 0))]).heap.size v (l ++ addL wr F from_ j)) := Lib.hid hown
      clear hown
      generalize addL wr F from_ j = R at *
      generalize F k = f at *
      generalize frm wr f = n at *
      cases hP : permB wr n
      · rw [hP] at hst H3
        have HST : Hid (addL _ F from_ (j + 1) = R) := Lib.hid (by rw [hst]; simp)
        clear hst hP hwf
        go_wp2_with fail
        refine region_bw (by kernel_rfl) (by kernel_rfl) ?_
        repeat (go_big_quiet_step ((first | ((with_reducible refine bqs (H1.out _) ?_); exact ⟨_, rfl⟩) | (go_at_call 45; exact bq (H2.out _) (fun d => lay_join _ _ _ d)))))
        refine wpQuiet_nil ?_
        rintro w' ⟨d, rfl⟩
        rw [lay_bw]
        go_wp2_with (go_at_call 44; refine (H3.out _).mono ?_; rintro e w' ⟨rfl, d, rfl⟩)
        go_roundw
        case rel => exact ⟨j + 1, v, _, hlt, congrArg (Value.int .i64) (by omega), Classical.choose_spec (lay_fold w [_, _, _] [.inl (.cells #[v] 29 (0, 0))]), by rw [← Classical.choose_spec (lay_fold w [_, _, _] [.inl (.cells #[v] 29 (0, 0))]), HST.out]; exact ow_on (A := [_, _]) HR.out⟩
        case measure => simp [intOf]; omega
      replace hwf := hwf hP
      rw [hP] at hst H3
      cases wr
      · have HST : Hid (addL _ F from_ (j + 1) = R ++ [n]) := Lib.hid (by rw [hst]; simp)
        clear hst hP
        go_wp2_with fail
        refine region_bw (by kernel_rfl) (by kernel_rfl) ?_
        repeat (go_big_quiet_step ((first | ((with_reducible refine bqs (H1.out _) ?_); exact ⟨_, rfl⟩) | (go_at_call 45; exact bq (H2.out _) (fun d => lay_join _ _ _ d)))))
        refine wpQuiet_nil ?_
        rintro w' ⟨d, rfl⟩
        rw [lay_bw]
        go_wp2_with (first | (go_at_call 44; refine (H3.out _).mono ?_; rintro e w' ⟨rfl, d, rfl⟩) | (at_builtin; refine push_int rfl _ _ rfl (lay w [.inl (.cells #[v] 29 (0, 0))]) _ (n) 3 _ _ _ ?_ (ow_on (A := [_, _, _]) (HR.out.base (box_size w _ _))) ?_ rfl rfl (by simp only [List.length_append]; omega) hwf ?_; exact lay_below (A := [_, _, _, _]); exact lay_get w _ 0 _ rfl; intro v' d' hv'; obtain ⟨va, vn, vc, hve⟩ := hv'.form0; subst hve))
        go_roundw
        case rel => exact ⟨j + 1, _, d', hlt, congrArg (Value.int .i64) (by omega), rfl, by rw [HST.out, ← List.append_assoc]; exact ow_swap _ (lay_lt _ _ _) (hv'.base (box_size w _ _))⟩
        case measure => simp [intOf]; omega
      by_cases hk0 : 0 ≤ k
      · by_cases hk1 : k < 216000
        · have HST : Hid (addL _ F from_ (j + 1) = R ++ [n]) := Lib.hid (by rw [hst, decide_eq_true hk0, decide_eq_true hk1]; simp)
          clear hst hP
          go_wp2_with fail
          refine region_bw (by kernel_rfl) (by kernel_rfl) ?_
          repeat (go_big_quiet_step ((first | ((with_reducible refine bqs (H1.out _) ?_); exact ⟨_, rfl⟩) | (go_at_call 45; exact bq (H2.out _) (fun d => lay_join _ _ _ d)))))
          refine wpQuiet_nil ?_
          rintro w' ⟨d, rfl⟩
          rw [lay_bw]
          go_wp2_with (first | (go_at_call 44; refine (H3.out _).mono ?_; rintro e w' ⟨rfl, d, rfl⟩) | (at_builtin; refine push_int rfl _ _ rfl (lay w [.inl (.cells #[v] 29 (0, 0))]) _ (n) 3 _ _ _ ?_ (ow_on (A := [_, _, _]) (HR.out.base (box_size w _ _))) ?_ rfl rfl (by simp only [List.length_append]; omega) hwf ?_; exact lay_below (A := [_, _, _, _]); exact lay_get w _ 0 _ rfl; intro v' d' hv'; obtain ⟨va, vn, vc, hve⟩ := hv'.form0; subst hve))
          go_roundw
          case rel => exact ⟨j + 1, _, d', hlt, congrArg (Value.int .i64) (by omega), rfl, by rw [HST.out, ← List.append_assoc]; exact ow_swap _ (lay_lt _ _ _) (hv'.base (box_size w _ _))⟩
          case measure => simp [intOf]; omega
        · have HST : Hid (addL _ F from_ (j + 1) = R) := Lib.hid (by rw [hst, decide_eq_false hk1]; simp)
          clear hst hP hwf
          go_wp2_with fail
          refine region_bw (by kernel_rfl) (by kernel_rfl) ?_
          repeat (go_big_quiet_step ((first | ((with_reducible refine bqs (H1.out _) ?_); exact ⟨_, rfl⟩) | (go_at_call 45; exact bq (H2.out _) (fun d => lay_join _ _ _ d)))))
          refine wpQuiet_nil ?_
          rintro w' ⟨d, rfl⟩
          rw [lay_bw]
          go_wp2_with (go_at_call 44; refine (H3.out _).mono ?_; rintro e w' ⟨rfl, d, rfl⟩)
          go_roundw
          case rel => exact ⟨j + 1, v, _, hlt, congrArg (Value.int .i64) (by omega), Classical.choose_spec (lay_fold w [_, _, _] [.inl (.cells #[v] 29 (0, 0))]), by rw [← Classical.choose_spec (lay_fold w [_, _, _] [.inl (.cells #[v] 29 (0, 0))]), HST.out]; exact ow_on (A := [_, _]) HR.out⟩
          case measure => simp [intOf]; omega
      · have HST : Hid (addL _ F from_ (j + 1) = R) := Lib.hid (by rw [hst, decide_eq_false hk0]; simp)
        clear hst hP hwf
        go_wp2_with fail
        refine region_bw (by kernel_rfl) (by kernel_rfl) ?_
        repeat (go_big_quiet_step ((first | ((with_reducible refine bqs (H1.out _) ?_); exact ⟨_, rfl⟩) | (go_at_call 45; exact bq (H2.out _) (fun d => lay_join _ _ _ d)))))
        refine wpQuiet_nil ?_
        rintro w' ⟨d, rfl⟩
        rw [lay_bw]
        go_wp2_with (go_at_call 44; refine (H3.out _).mono ?_; rintro e w' ⟨rfl, d, rfl⟩)
        go_roundw
        case rel => exact ⟨j + 1, v, _, hlt, congrArg (Value.int .i64) (by omega), Classical.choose_spec (lay_fold w [_, _, _] [.inl (.cells #[v] 29 (0, 0))]), by rw [← Classical.choose_spec (lay_fold w [_, _, _] [.inl (.cells #[v] 29 (0, 0))]), HST.out]; exact ow_on (A := [_, _]) HR.out⟩
        case measure => simp [intOf]; omega
    · obtain rfl : j = cnt := by omega
      have HR := Lib.hid hown
      have x1 : to_ < from_ + (j : Int) := by omega
      clear hown
      go_wp2_with fail
      exact bodyPost_end (v := .tuple #[]) (results_none rfl _ _ _) rfl ⟨v, d, rfl, rfl, HR.out⟩
end Go.Proofs.YtmmfkleplbofgaaGreatDoor
/- Audit, the plain law: a list that is sorted and compacted. No program in sight. -/
namespace Go.Proofs.YtmmfkleplbofgaaGreatDoor
open Go.RowKit

theorem keeps_iff {d : Array Int} {j : Nat} : Lib.keeps d j = true ↔ j = 0 ∨ d[j]! ≠ d[j - 1]! := by simp [Lib.keeps]
theorem mem_upTo {d : Array Int} {x : Int} : ∀ {m : Nat}, x ∈ Lib.compactUpTo d m → ∃ j, j < m ∧ x = d[j]!
  | 0, h => by simp [Lib.compactUpTo] at h
  | m + 1, h => by
    rw [Lib.compactUpTo_succ, List.mem_append] at h
    rcases h with h | h
    · obtain ⟨j, h1, h2⟩ := mem_upTo h
      exact ⟨j, by omega, h2⟩
    · split at h
      · exact ⟨m, by omega, by simpa using h⟩
      · exact absurd h (List.not_mem_nil)
theorem upTo_mem {d : Array Int} : ∀ {m j : Nat}, j < m → d[j]! ∈ Lib.compactUpTo d m
  | 0, j, h => absurd h (Nat.not_lt_zero j)
  | m + 1, j, h => by
    rw [Lib.compactUpTo_succ, List.mem_append]
    by_cases e : j < m
    · exact .inl (upTo_mem e)
    · obtain rfl : j = m := by omega
      by_cases hk : Lib.keeps d j = true
      · rw [if_pos hk]; exact .inr (List.mem_singleton.2 rfl)
      · have h0 : ¬ (j = 0 ∨ d[j]! ≠ d[j - 1]!) := fun h => hk (keeps_iff.2 h)
        have h1 : d[j]! = d[j - 1]! := Decidable.not_not.1 fun h => h0 (.inr h)
        rw [h1]
        exact .inl (upTo_mem (by omega))
theorem upTo_len (d : Array Int) : ∀ m, (Lib.compactUpTo d m).length ≤ m
  | 0 => by simp [Lib.compactUpTo]
  | m + 1 => by
    rw [Lib.compactUpTo_succ, List.length_append]
    have := upTo_len d m
    split <;> simp <;> omega
theorem upTo_asc {d : Array Int} (hs : ∀ j, j + 1 < d.size → d[j]! ≤ d[j + 1]!) : ∀ m, m ≤ d.size → Asc (Lib.compactUpTo d m) ∧ ∀ x, x ∈ Lib.compactUpTo d m → x ≤ d[m - 1]!
  | 0, _ => by constructor <;> simp [Lib.compactUpTo, Asc]
  | m + 1, hm => by
    obtain ⟨h1, h2⟩ := upTo_asc hs m (by omega)
    rw [Lib.compactUpTo_succ]
    have h3 : ∀ x, x ∈ Lib.compactUpTo d m → x ≤ d[m]! := fun x hx => by
      have hm0 : 0 < m := by
        obtain ⟨j, hj, _⟩ := mem_upTo hx
        omega
      have := h2 x hx
      have := hs (m - 1) (by omega)
      rw [show m - 1 + 1 = m by omega] at this
      omega
    split
    · rename_i hk
      refine ⟨List.pairwise_append.2 ⟨h1, List.pairwise_singleton .., fun x hx y hy => ?_⟩, fun x hx => ?_⟩
      · obtain rfl := List.mem_singleton.1 hy
        have hm0 : 0 < m := by
          obtain ⟨j, hj, _⟩ := mem_upTo hx
          omega
        have h5 := h2 x hx
        have h6 := hs (m - 1) (by omega)
        rw [show m - 1 + 1 = m by omega] at h6
        rcases keeps_iff.1 hk with h | h
        · omega
        · omega
      · rcases List.mem_append.1 hx with h | h
        · exact h3 x h
        · obtain rfl := List.mem_singleton.1 h
          exact Int.le_refl _
    · rw [List.append_nil]
      exact ⟨h1, h3⟩
theorem compact_len (l : List Int) : (Lib.compact l).length ≤ l.length := upTo_len _ _
theorem mem_compact {l : List Int} {x : Int} : x ∈ Lib.compact l ↔ x ∈ l := by
  unfold Lib.compact
  constructor
  · intro h
    obtain ⟨j, hj, rfl⟩ := mem_upTo h
    have : l.toArray[j]! = l[j] := by simp [hj]
    rw [this]; exact List.getElem_mem hj
  · intro h
    obtain ⟨j, hj, rfl⟩ := List.getElem_of_mem h
    have : l.toArray[j]! = l[j] := by simp [hj]
    rw [← this]; exact upTo_mem hj
theorem compact_asc {l : List Int} (hs : l.Pairwise (· ≤ ·)) : Asc (Lib.compact l) := by
  unfold Lib.compact
  refine (upTo_asc (fun j hj => ?_) l.length (by simp)).1
  have hj' : j + 1 < l.length := by simpa using hj
  have h1 : l.toArray[j]! = l[j] := by simp [show j < l.length by omega]
  have h2 : l.toArray[j + 1]! = l[j + 1] := by simp [hj']
  rw [h1, h2]
  exact List.pairwise_iff_getElem.1 hs j (j + 1) (by omega) hj' (by omega)
theorem sort_pair (l : List Int) : (l.mergeSort fun x y => decide (x ≤ y)).Pairwise (· ≤ ·) := by
  have := List.pairwise_mergeSort (le := fun x y : Int => decide (x ≤ y)) (fun a b c h1 h2 => by simp at *; omega) (fun a b => by simp; omega) l
  exact this.imp fun h => by simpa using h
/-- Sorted, each once. -/
def once (l : List Int) : List Int := Lib.compact (l.mergeSort fun x y => decide (x ≤ y))
theorem mem_once {l : List Int} {x : Int} : x ∈ once l ↔ x ∈ l := by unfold once; rw [mem_compact]; exact List.mem_mergeSort
theorem asc_once (l : List Int) : Asc (once l) := compact_asc (sort_pair l)
theorem once_len (l : List Int) : (once l).length ≤ l.length := by
  have := compact_len (l.mergeSort fun x y => decide (x ≤ y))
  rw [List.length_mergeSort] at this; exact this
end Go.Proofs.YtmmfkleplbofgaaGreatDoor
/- audit: candidates. -/
namespace Go.Proofs.YtmmfkleplbofgaaGreatDoor
open Go.RowKit

def cntM (bend : Int) : Nat := (2 * (bend + 2) + 1).toNat
def raw1 (wr : Bool) (l : List Int) (bend : Int) (k : Nat) : List Int := addL wr (fun x => nth l (k + 1) + x) (stp wr l k - (bend + 2)) (cntM bend)
def raw2 (wr : Bool) (l : List Int) (bend : Int) (at_ : Nat) : List Int := addL wr (fun x => nth l (at_ + 1) - x) (stp wr l (at_ + 1) - (bend + 2)) (cntM bend)
def half1 (s bend : Int) : Int := (s - (bend + 2)).tdiv 2 - 1
def half2 (s bend : Int) : Int := (s + (bend + 2)).tdiv 2 + 1
def cntH (s bend : Int) : Nat := (half2 s bend - half1 s bend + 1).toNat
def raw3 (wr : Bool) (l : List Int) (bend : Int) : List Int :=
  addL wr (fun x => nth l 0 + x) (half1 (frm wr (nth l 2 - nth l 0)) bend) (cntH (frm wr (nth l 2 - nth l 0)) bend) ++
    if wr then addL wr (fun x => nth l 0 + x) (half1 (frm wr (nth l 2 - nth l 0) + 216000) bend) (cntH (frm wr (nth l 2 - nth l 0) + 216000) bend) else []
theorem bw_of_lay (w : World) (L : List (Obj ⊕ Ext)) : ∃ d, lay w L = bw w d := lay_ex w L
/-- The end of candidates: the row is sorted and compacted. -/
theorem cand_end {w : World} {L : List (Obj ⊕ Ext)} {d : Ext} {v : Value} {l : List Int} (h : Ow (bw (lay w L) d) (lay w L).heap.size v l) : ∃ d', bw (lay w L) d = bw w d' ∧ Ow (bw w d') w.heap.size v l := by
  obtain ⟨d', hd⟩ := lay_exb w L d
  exact ⟨d', hd, by rw [← hd]; exact h.le (lay_extends w L).size⟩
def SorPost (W0 : World) (v : Value) (l : List Int) (e : Ending) (w' : World) : Prop := ∃ d, e = .returned (.tuple #[]) ∧ w' = bw W0 d ∧ Ow (bw W0 d) W0.heap.size v (srt l)
def ComPost (W0 : World) (l : List Int) (e : Ending) (w' : World) : Prop := ∃ v d, e = .returned v ∧ w' = bw W0 d ∧ Ow (bw W0 d) W0.heap.size v l
theorem sl_Sort' (W0 : World) (v : Value) (l : List Int) (d : Ext) (h : Ow (bw W0 d) W0.heap.size v l) (hb : l.length ≤ 1000000000) :
    Calls Tryz.prog 69 #[v] (bw W0 d) (SorPost W0 v l) :=
  (sl_Sort W0 v l _ (bw_below W0 d) h hb).mono fun _ _ ⟨h1, d, h2, h3⟩ => ⟨d, h1, h2, h3⟩
theorem sl_Compact' (W0 : World) (v : Value) (l : List Int) (d : Ext) (h : Ow (bw W0 d) W0.heap.size v (srt l)) (hb : l.length ≤ 1000000000) :
    Calls Tryz.prog 70 #[v] (bw W0 d) (ComPost W0 (once l)) :=
  sl_Compact W0 v (srt l) _ (bw_below W0 d) h (by rw [srt_len]; exact hb) (fun x hx => mem_compact.1 hx) (compact_len _)
set_option maxHeartbeats 4000000 in
set_option maxRecDepth 100000 in
theorem aud_candidates1 (v : Value) (l : List Int) (wr : Bool) (bend : Int) (k : Nat) (w : World) (hs : Sl w v l) (hg : Giv wr l) (b0 : 0 ≤ bend) (b1 : bend ≤ 1000) (ha : k + 2 < l.length) :
    Calls Tryz.prog 49 #[.agg #[v, .bool wr], .int .i64 bend, .int .i64 ((k : Int) + 2)] w (Rw w (once (raw1 wr l bend k))) := by
  have hn := hg.n1000
  have sb := stp_bd hg (i := k) (by omega)
  have pb := perm_bd (hg.perm (k + 1) (by omega))
  have H1 := Lib.hid (fun W (h : Sl W v l) => aud_step v l wr k W h hg (by omega))
  have HS := Lib.hid hs
  obtain ⟨b, o, cap, rfl, hc, -, hb, hr⟩ := hs.open (by omega)
  have hr := hr (k + 1) (by omega)
  obtain ⟨m, hm⟩ : ∃ m, l.length = m := ⟨_, rfl⟩
  rw [hm] at H1 HS ha hn hc ⊢
  have eI : ∀ args w, (callFunc 65 args).run Tryz.prog w = .ok (.enter 65 args) w := enters_of Tryz.func65 (by kernel_rfl) rfl
  have k3 : (lay w [.inl (.cells #[.int .i64 ((k : Int) + 2)] 3 (0, 0)), .inl (.cells #[.slice (some ⟨b, o, none⟩) m cap, .bool wr] 59 (0, 0))]).cell? ⟨posn w [], 0, none⟩ = some (.slice (some ⟨b, o, none⟩) m cap) := by simp [go_sem]
  have k3' : (lay w [.inl (.cells #[.int .i64 ((k : Int) + 2)] 3 (0, 0)), .inl (.cells #[.slice (some ⟨b, o, none⟩) m cap, .bool wr] 59 (0, 0))]).cell? ⟨posn w [], 1, none⟩ = some (.bool wr) := by simp [go_sem]
  have k5 : (lay w [.inl (.cells #[.int .i64 ((k : Int) + 2)] 3 (0, 0)), .inl (.cells #[.slice (some ⟨b, o, none⟩) m cap, .bool wr] 59 (0, 0))]).cell? ⟨posn w [1], 0, none⟩ = some (.int .i64 (((k + 1 : Nat) : Int) + 1)) := by rw [show (((k + 1 : Nat) : Int) + 1) = (k : Int) + 2 by omega]; simp [go_sem]
  have l3 : posn w [] < (lay w [.inl (.cells #[.int .i64 ((k : Int) + 2)] 3 (0, 0)), .inl (.cells #[.slice (some ⟨b, o, none⟩) m cap, .bool wr] 59 (0, 0))]).heap.size := by simp only [lay_size, shp, posn, List.sum_cons, List.sum_nil]; omega
  have l5 : posn w [1] < (lay w [.inl (.cells #[.int .i64 ((k : Int) + 2)] 3 (0, 0)), .inl (.cells #[.slice (some ⟨b, o, none⟩) m cap, .bool wr] 59 (0, 0))]).heap.size := by simp only [lay_size, shp, posn, List.sum_cons, List.sum_nil]; omega
  have hp : posn (lay w [.inl (.cells #[.int .i64 ((k : Int) + 2)] 3 (0, 0)), .inl (.cells #[.slice (some ⟨b, o, none⟩) m cap, .bool wr] 59 (0, 0))]) [] = posn w [1, 1] := by simp only [posn, lay_size, shp, List.sum_cons, List.sum_nil]; omega
  have HA := Lib.hid (fun d => aud_add 65 [.pointer (some ⟨posn w [], 0, none⟩), .pointer (some ⟨posn w [1], 0, none⟩)] (fun x => nth l (k + 1) + x) (some ⟨b, o, none⟩) m cap (posn w []) wr (stp wr l k - (bend + 2)) (stp wr l k + (bend + 2)) (cntM bend) (.slice none 0 0) []
    (lay w [.inl (.cells #[.int .i64 ((k : Int) + 2)] 3 (0, 0)), .inl (.cells #[.slice (some ⟨b, o, none⟩) m cap, .bool wr] 59 (0, 0))]) d eI l3 k3 k3'
    (fun x x0 x1 L => cand2 b o m cap (posn w []) (posn w [1]) (k + 1) l x _ ((lay_old _ L 0 _ l3).trans k3) ((lay_old _ L 0 _ l5).trans k5) (by omega) hn ((lay_old _ L _ _ (Nat.lt_of_lt_of_le hb (lay_extends w _).size)).trans ((lay_old w _ _ _ hb).trans hr)) pb ⟨by omega, by omega⟩)
    (fun x x0 x1 => ⟨by omega, by omega⟩) (by omega) (by omega) (by unfold cntM; omega) (by simp) (Ow.nil _ _))
  rw [hp] at HA
  have hraw : raw1 wr l bend k = [] ++ addL wr (fun x => nth l (k + 1) + x) (stp wr l k - (bend + 2)) (cntM bend) := rfl
  have hrl : (raw1 wr l bend k).length ≤ 1000000000 := by
    have := addL_len wr (fun x => nth l (k + 1) + x) (stp wr l k - (bend + 2)) (cntM bend)
    unfold raw1; unfold cntM at *; omega
  rw [← hraw] at HA
  have y1 : (2 : Int) ≤ (k : Int) + 2 := by omega
  have w0 : wrap64 (k : Int) = (k : Int) := IntWalk.wrap64_in _ (by omega)
  have w1 : IntKind.i64.wrap (bend + 2) = bend + 2 := IntWalk.i64_in _ (by omega)
  have w2 : IntKind.i64.wrap (stp wr l k - (bend + 2)) = stp wr l k - (bend + 2) := IntWalk.i64_in _ (by omega)
  have w3 : IntKind.i64.wrap (stp wr l k + (bend + 2)) = stp wr l k + (bend + 2) := IntWalk.i64_in _ (by omega)
  have hlay : ∀ x y, lay (lay w [.inl (.cells #[.int .i64 ((k : Int) + 2)] 3 (0, 0)), .inl (.cells #[.slice (some ⟨b, o, none⟩) m cap, .bool wr] 59 (0, 0))]) [x, y] = lay w [x, y, .inl (.cells #[.int .i64 ((k : Int) + 2)] 3 (0, 0)), .inl (.cells #[.slice (some ⟨b, o, none⟩) m cap, .bool wr] 59 (0, 0))] := fun x y => (lay_app w [x, y] _).symm
  clear hraw k3 k3' k5 l3 l5 hp eI hs hg hr hm
  generalize raw1 wr l bend k = R at *
  generalize stp wr l k = S at *
  refine lay_start ?_
  go_enter Tryz.func49, Tryz.ntmps49
  go_wp2_with (go_at_call 27; refine (H1.out _ (HS.out.lay _)).mono ?_; rintro e w' ⟨rfl, d, rfl⟩)
  refine (HA.out _).mono ?_
  rintro e w' ⟨v, d2, rfl, rfl, hv⟩
  rw [hlay] at hv ⊢
  replace hv := hv.base ((box_size _ _ v).trans (show _ = (lay w (.inl (.cells #[v] 29 (0, 0)) :: [.inl (.cells #[.int .i64 ((k : Int) + 2)] 3 (0, 0)), .inl (.cells #[.slice (some ⟨b, o, none⟩) m cap, .bool wr] 59 (0, 0))])).heap.size from rfl))
  have HSo := Lib.hid (sl_Sort' (lay w (.inl (.cells #[v] 29 (0, 0)) :: [.inl (.cells #[.int .i64 ((k : Int) + 2)] 3 (0, 0)), .inl (.cells #[.slice (some ⟨b, o, none⟩) m cap, .bool wr] 59 (0, 0))])) v _ d2 hv hrl)
  clear hv
  go_wp2_with fail
  refine HSo.out.mono ?_
  rintro e w' ⟨d3, rfl, rfl, h3⟩
  rw [lay_bw]
  have HCo := Lib.hid (sl_Compact' (lay w (.inl (.cells #[v] 29 (0, 0)) :: [.inl (.cells #[.int .i64 ((k : Int) + 2)] 3 (0, 0)), .inl (.cells #[.slice (some ⟨b, o, none⟩) m cap, .bool wr] 59 (0, 0))])) v _ d3 h3 hrl)
  clear h3
  go_wp2_with fail
  refine HCo.out.mono ?_
  rintro e w' ⟨v2, d4, rfl, rfl, h4⟩
  obtain ⟨va, vn, vc, hve⟩ := h4.form0
  subst hve
  rw [lay_bw]
  have H4 := Lib.hid h4
  clear h4
  go_wp2
  go_ret
  obtain ⟨z, hz, h5⟩ := cand_end H4.out
  exact ⟨_, z, rfl, hz, h5⟩
set_option maxHeartbeats 4000000 in
set_option maxRecDepth 100000 in
theorem aud_candidates2 (v : Value) (l : List Int) (wr : Bool) (bend : Int) (k : Nat) (w : World) (hs : Sl w v l) (hg : Giv wr l) (b0 : 0 ≤ bend) (b1 : bend ≤ 1000) (hk : k < 2) (ha : k + 2 < l.length) :
    Calls Tryz.prog 49 #[.agg #[v, .bool wr], .int .i64 bend, .int .i64 (k : Int)] w (Rw w (once (raw2 wr l bend k))) := by
  have hn := hg.n1000
  have sb := stp_bd hg (i := k + 1) (by omega)
  have pb := perm_bd (hg.perm (k + 1) (by omega))
  have H1 := Lib.hid (fun W (h : Sl W v l) => aud_step v l wr (k + 1) W h hg (by omega))
  rw [show ((k + 1 : Nat) : Int) = (k : Int) + 1 by omega] at H1
  have HS := Lib.hid hs
  obtain ⟨b, o, cap, rfl, hc, -, hb, hr⟩ := hs.open (by omega)
  have hr := hr (k + 1) (by omega)
  obtain ⟨m, hm⟩ : ∃ m, l.length = m := ⟨_, rfl⟩
  rw [hm] at H1 HS ha hn hc ⊢
  have eI : ∀ args w, (callFunc 66 args).run Tryz.prog w = .ok (.enter 66 args) w := enters_of Tryz.func66 (by kernel_rfl) rfl
  have k3 : (lay w [.inl (.cells #[.int .i64 (k : Int)] 3 (0, 0)), .inl (.cells #[.slice (some ⟨b, o, none⟩) m cap, .bool wr] 59 (0, 0))]).cell? ⟨posn w [], 0, none⟩ = some (.slice (some ⟨b, o, none⟩) m cap) := by simp [go_sem]
  have k3' : (lay w [.inl (.cells #[.int .i64 (k : Int)] 3 (0, 0)), .inl (.cells #[.slice (some ⟨b, o, none⟩) m cap, .bool wr] 59 (0, 0))]).cell? ⟨posn w [], 1, none⟩ = some (.bool wr) := by simp [go_sem]
  have k5 : (lay w [.inl (.cells #[.int .i64 (k : Int)] 3 (0, 0)), .inl (.cells #[.slice (some ⟨b, o, none⟩) m cap, .bool wr] 59 (0, 0))]).cell? ⟨posn w [1], 0, none⟩ = some (.int .i64 (k : Int)) := by simp [go_sem]
  have l3 : posn w [] < (lay w [.inl (.cells #[.int .i64 (k : Int)] 3 (0, 0)), .inl (.cells #[.slice (some ⟨b, o, none⟩) m cap, .bool wr] 59 (0, 0))]).heap.size := by simp only [lay_size, shp, posn, List.sum_cons, List.sum_nil]; omega
  have l5 : posn w [1] < (lay w [.inl (.cells #[.int .i64 (k : Int)] 3 (0, 0)), .inl (.cells #[.slice (some ⟨b, o, none⟩) m cap, .bool wr] 59 (0, 0))]).heap.size := by simp only [lay_size, shp, posn, List.sum_cons, List.sum_nil]; omega
  have hp : posn (lay w [.inl (.cells #[.int .i64 (k : Int)] 3 (0, 0)), .inl (.cells #[.slice (some ⟨b, o, none⟩) m cap, .bool wr] 59 (0, 0))]) [] = posn w [1, 1] := by simp only [posn, lay_size, shp, List.sum_cons, List.sum_nil]; omega
  have HA := Lib.hid (fun d => aud_add 66 [.pointer (some ⟨posn w [], 0, none⟩), .pointer (some ⟨posn w [1], 0, none⟩)] (fun x => nth l (k + 1) - x) (some ⟨b, o, none⟩) m cap (posn w []) wr (stp wr l (k + 1) - (bend + 2)) (stp wr l (k + 1) + (bend + 2)) (cntM bend) (.slice none 0 0) []
    (lay w [.inl (.cells #[.int .i64 (k : Int)] 3 (0, 0)), .inl (.cells #[.slice (some ⟨b, o, none⟩) m cap, .bool wr] 59 (0, 0))]) d eI l3 k3 k3'
    (fun x x0 x1 L => cand3 b o m cap (posn w []) (posn w [1]) k l x _ ((lay_old _ L 0 _ l3).trans k3) ((lay_old _ L 0 _ l5).trans k5) (by omega) hn ((lay_old _ L _ _ (Nat.lt_of_lt_of_le hb (lay_extends w _).size)).trans ((lay_old w _ _ _ hb).trans hr)) pb ⟨by omega, by omega⟩)
    (fun x x0 x1 => ⟨by omega, by omega⟩) (by omega) (by omega) (by unfold cntM; omega) (by simp) (Ow.nil _ _))
  rw [hp] at HA
  have hraw : raw2 wr l bend k = [] ++ addL wr (fun x => nth l (k + 1) - x) (stp wr l (k + 1) - (bend + 2)) (cntM bend) := rfl
  have hrl : (raw2 wr l bend k).length ≤ 1000000000 := by
    have := addL_len wr (fun x => nth l (k + 1) - x) (stp wr l (k + 1) - (bend + 2)) (cntM bend)
    unfold raw2; unfold cntM at *; omega
  rw [← hraw] at HA
  have y1 : (k : Int) < 2 := by omega
  have y2 : (k : Int) + 2 < (m : Int) := by omega
  have w0 : IntKind.i64.wrap ((k : Int) + 1) = (k : Int) + 1 := IntWalk.i64_in _ (by omega)
  have w9 : IntKind.i64.wrap ((k : Int) + 2) = (k : Int) + 2 := IntWalk.i64_in _ (by omega)
  have w1 : IntKind.i64.wrap (bend + 2) = bend + 2 := IntWalk.i64_in _ (by omega)
  have w2 : IntKind.i64.wrap (stp wr l (k + 1) - (bend + 2)) = stp wr l (k + 1) - (bend + 2) := IntWalk.i64_in _ (by omega)
  have w3 : IntKind.i64.wrap (stp wr l (k + 1) + (bend + 2)) = stp wr l (k + 1) + (bend + 2) := IntWalk.i64_in _ (by omega)
  have hlay : ∀ x y, lay (lay w [.inl (.cells #[.int .i64 (k : Int)] 3 (0, 0)), .inl (.cells #[.slice (some ⟨b, o, none⟩) m cap, .bool wr] 59 (0, 0))]) [x, y] = lay w [x, y, .inl (.cells #[.int .i64 (k : Int)] 3 (0, 0)), .inl (.cells #[.slice (some ⟨b, o, none⟩) m cap, .bool wr] 59 (0, 0))] := fun x y => (lay_app w [x, y] _).symm
  clear hraw k3 k3' k5 l3 l5 hp eI hs hg hr hm
  generalize raw2 wr l bend k = R at *
  generalize stp wr l (k + 1) = S at *
  refine lay_start ?_
  go_enter Tryz.func49, Tryz.ntmps49
  go_wp2_with (go_at_call 27; refine (H1.out _ (HS.out.lay _)).mono ?_; rintro e w' ⟨rfl, d, rfl⟩)
  refine (HA.out _).mono ?_
  rintro e w' ⟨v, d2, rfl, rfl, hv⟩
  rw [hlay] at hv ⊢
  replace hv := hv.base ((box_size _ _ v).trans (show _ = (lay w (.inl (.cells #[v] 29 (0, 0)) :: [.inl (.cells #[.int .i64 (k : Int)] 3 (0, 0)), .inl (.cells #[.slice (some ⟨b, o, none⟩) m cap, .bool wr] 59 (0, 0))])).heap.size from rfl))
  have HSo := Lib.hid (sl_Sort' (lay w (.inl (.cells #[v] 29 (0, 0)) :: [.inl (.cells #[.int .i64 (k : Int)] 3 (0, 0)), .inl (.cells #[.slice (some ⟨b, o, none⟩) m cap, .bool wr] 59 (0, 0))])) v _ d2 hv hrl)
  clear hv
  go_wp2_with fail
  refine HSo.out.mono ?_
  rintro e w' ⟨d3, rfl, rfl, h3⟩
  rw [lay_bw]
  have HCo := Lib.hid (sl_Compact' (lay w (.inl (.cells #[v] 29 (0, 0)) :: [.inl (.cells #[.int .i64 (k : Int)] 3 (0, 0)), .inl (.cells #[.slice (some ⟨b, o, none⟩) m cap, .bool wr] 59 (0, 0))])) v _ d3 h3 hrl)
  clear h3
  go_wp2_with fail
  refine HCo.out.mono ?_
  rintro e w' ⟨v2, d4, rfl, rfl, h4⟩
  obtain ⟨va, vn, vc, hve⟩ := h4.form0
  subst hve
  rw [lay_bw]
  have H4 := Lib.hid h4
  clear h4
  go_wp2
  go_ret
  obtain ⟨z, hz, h5⟩ := cand_end H4.out
  exact ⟨_, z, rfl, hz, h5⟩
end Go.Proofs.YtmmfkleplbofgaaGreatDoor

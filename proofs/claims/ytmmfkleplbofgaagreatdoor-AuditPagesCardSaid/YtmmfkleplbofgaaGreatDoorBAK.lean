/- Contracts and plain laws, several texts in one: Aud11; Aud12; Re1; Re2; Re3 -/
import Derived.Test.YtmmfkleplbofgaaGreatDoorProg
import Derived.WalkKit
import Derived.WalkSpells
import Derived.WalkLawsBesides
import Derived.Lib.Hide
import Derived.BigQuiet
import Derived.Deep.RegionWith
import Derived.Test.YtmmfkleplbofgaaGreatDoorBAA
import Derived.Test.YtmmfkleplbofgaaGreatDoorBAB
import Derived.Test.YtmmfkleplbofgaaGreatDoorBAF
/- audit: Differences. -/
namespace Go.Proofs.YtmmfkleplbofgaaGreatDoor
open Go.RowKit

/-- The entries unwrapped, from the first on; their differences of an order. -/
def pre (wr : Bool) (l : List Int) : Nat → Int
  | 0 => nth l 0
  | k + 1 => pre wr l k + stp wr l k
def dif (wr : Bool) (l : List Int) : Nat → Nat → Int
  | 0, i => pre wr l i
  | k + 1, i => dif wr l k (i + 1) - dif wr l k i
def rowF (f : Nat → Int) (n : Nat) : List Int := (List.range n).map f
theorem rowF_len (f : Nat → Int) (n : Nat) : (rowF f n).length = n := by simp [rowF]
theorem rowF_nth (f : Nat → Int) (n i : Nat) (h : i < n) : nth (rowF f n) i = f i := by unfold nth rowF; simp [List.getD, h]
theorem rowF_succ (f : Nat → Int) (n : Nat) : rowF f (n + 1) = rowF f n ++ [f n] := by unfold rowF; simp [List.range_succ]
def difL (wr : Bool) (l : List Int) (order : Nat) : List Int := rowF (dif wr l order) (l.length - order)
theorem pre_bd {wr : Bool} {l : List Int} (h : Giv wr l) : ∀ k, k < l.length → -1048576 - 2097152 * (k : Int) ≤ pre wr l k ∧ pre wr l k ≤ 1048576 + 2097152 * (k : Int)
  | 0, hk => by have := perm_bd (h.perm 0 hk); simp only [pre]; omega
  | k + 1, hk => by
    have := pre_bd h k (by omega)
    have := stp_bd h (i := k) hk
    simp only [pre]; omega
theorem dif_bd {wr : Bool} {l : List Int} (h : Giv wr l) : ∀ k i, i + k < l.length → -(4000000000 * 2 ^ k) ≤ dif wr l k i ∧ dif wr l k i ≤ 4000000000 * 2 ^ k
  | 0, i, hi => by have := pre_bd h i (by omega); have := h.n1000; simp only [dif]; omega
  | k + 1, i, hi => by
    have h1 := dif_bd h k (i + 1) (by omega)
    have h2 := dif_bd h k i (by omega)
    have e : (2 : Int) ^ (k + 1) = 2 ^ k * 2 := Int.pow_succ ..
    simp only [dif]
    rw [e]
    generalize (2 : Int) ^ k = T at *
    omega
theorem dif_bd5 {wr : Bool} {l : List Int} (h : Giv wr l) {k i : Nat} (hk : k ≤ 6) (hi : i + k < l.length) : -300000000000 ≤ dif wr l k i ∧ dif wr l k i ≤ 300000000000 := by
  have h1 := dif_bd h k i hi
  have h2 : (2 : Int) ^ k ≤ 2 ^ 6 := by
    match k, hk with
    | 0, _ => decide
    | 1, _ => decide
    | 2, _ => decide
    | 3, _ => decide
    | 4, _ => decide
    | 5, _ => decide
    | 6, _ => decide
    | k + 7, h => omega
  have h3 : (2 : Int) ^ 6 = 64 := by decide
  rw [h3] at h2
  generalize (2 : Int) ^ k = T at *
  omega
theorem lit_bd {n : Int} (h : -300000000000 ≤ n ∧ n ≤ 300000000000) : (Lit.int .i64 n).wf = true := by
  simp [Lit.wf, IntKind.min, IntKind.max, IntKind.bits, IntKind.signed]; omega
/-- The row on the way from an order to the next one. -/
def rowM (f g : Nat → Int) (n i : Nat) : List Int := rowF (fun t => if t < i then g t else f t) n
theorem rowM_0 (f g : Nat → Int) (n : Nat) : rowM f g n 0 = rowF f n := by unfold rowM rowF; simp
theorem rowM_len (f g : Nat → Int) (n i : Nat) : (rowM f g n i).length = n := rowF_len _ _
theorem rowM_nth (f g : Nat → Int) (n i t : Nat) (h : t < n) : nth (rowM f g n i) t = if t < i then g t else f t := rowF_nth _ _ _ h
theorem rowM_set (f g : Nat → Int) (n i : Nat) (h : i < n) : (rowM f g n i).set i (g i) = rowM f g n (i + 1) := by
  apply List.ext_getElem
  · simp [rowM_len]
  · intro t h1 h2
    rw [rowM_len] at h2
    have e1 : nth ((rowM f g n i).set i (g i)) t = ((rowM f g n i).set i (g i))[t] := by unfold nth; simp [List.getD, rowM_len, h2]
    have e2 : nth (rowM f g n (i + 1)) t = (rowM f g n (i + 1))[t]'(by rw [rowM_len]; exact h2) := by unfold nth; simp [List.getD, rowM_len, h2]
    rw [← e1, ← e2, nth_set _ _ _ (by rw [rowM_len]; exact h), rowM_nth _ _ _ _ _ h2, rowM_nth _ _ _ _ _ h2]
    by_cases e : t = i
    · subst e; rw [if_pos rfl, if_pos (Nat.lt_succ_self _)]
    · rw [if_neg e]
      by_cases h3 : t < i
      · rw [if_pos h3, if_pos (by omega)]
      · rw [if_neg h3, if_neg (by omega)]
theorem rowM_cut (f g : Nat → Int) (n : Nat) : rowM f g (n + 1) n = rowF g n ++ [f n] := by
  unfold rowM
  rw [rowF_succ]
  congr 1
  · unfold rowF
    apply List.map_congr_left
    intro t ht
    rw [if_pos (List.mem_range.1 ht)]
  · rw [if_neg (Nat.lt_irrefl _)]
theorem ow_lit {w : World} {L : List (Obj ⊕ Ext)} {x : Int} (hx : (Lit.int .i64 x).wf = true) : Ow (lay w (.inl (.cells #[.int .i64 x] 3 (0, 0)) :: L)) (lay w L).heap.size (.slice (some ⟨posn w (shp L), 0, none⟩) 1 1) [x] := by
  rw [← lay_size w L]
  refine ⟨World.ownsRow_lit (lay w L) #[.int .i64 x] 1 (Nat.le_refl _) (by decide) rfl, fun i hi => ?_⟩
  obtain rfl : i = 0 := by have : i < 1 := hi; omega
  exact hx
set_option maxHeartbeats 1000000 in
set_option maxRecDepth 100000 in
theorem aud_Differences (v : Value) (l : List Int) (wr : Bool) (order : Nat) (w : World) (hs : Sl w v l) (hg : Giv wr l) (ho : order ≤ 5) :
    Calls Tryz.prog 11 #[v, .int .i64 (order : Int), .bool wr] w (RwE w (difL wr l order) 0) := by
  have hn := hg.n1000
  have hn3 := hg.n3
  have HC := Lib.hid (fun W (h : Sl W v l) => aud_check v l wr W h)
  rw [giv_iff.2 hg] at HC
  have HSt := Lib.hid (fun W (k : Nat) (hk : k + 1 < l.length) (h : Sl W v l) => aud_step v l wr k W h hg hk)
  have HB0 := Lib.hid (fun k hk => pre_bd hg k hk)
  have HBs := Lib.hid (fun (k : Nat) (hk : k + 1 < l.length) => stp_bd hg hk)
  have HBd := Lib.hid (fun k i (hk : k ≤ 6) (hi : i + k < l.length) => dif_bd5 hg hk hi)
  have HS := Lib.hid hs
  have hp0 := perm_bd (hg.perm 0 (by omega))
  obtain ⟨b, o, cap, rfl, hc, -, hb, hr⟩ := hs.open (by omega)
  have hr0 := hr 0 (by omega)
  rw [Nat.add_zero] at hr0
  obtain ⟨m, hm⟩ : ∃ m, l.length = m := ⟨_, rfl⟩
  have hdl : difL wr l order = rowF (dif wr l order) (m - order) := by rw [← hm]; rfl
  rw [hdl]
  rw [hm] at HC HSt HB0 HBs HBd HS hn hn3 hc ⊢
  have y1 : (0 : Int) < (m : Int) := by omega
  have wm : IntKind.i64.wrap ((m : Int) - 1) = (m : Int) - 1 := IntWalk.i64_in _ (by omega)
  have o1 : decide ((order : Int) < 0) = false := decide_eq_false (by omega)
  have o2 : decide ((5 : Int) < (order : Int)) = false := decide_eq_false (by omega)
  have o3 : (0 : Int) ≤ (order : Int) := by omega
  have o4 : (order : Int) ≤ 5 := by omega
  clear hr hs hg hm hdl
  refine lay_start ?_
  go_enter Tryz.func11, Tryz.ntmps11
  go_wp2_with (go_at_call 26; refine (HC.out _ (HS.out.lay _)).mono ?_; rintro e w' ⟨rfl, d0, rfl⟩)
  go_loopw [10, 34] (fun v10 v34 wr' => ∃ (j g c : Nat) (dd : Ext), j + 1 ≤ m ∧ v10 = .slice (some ⟨g, 0, none⟩) (j + 1) c ∧ v34 = .int .i64 (j : Int) ∧ wr' = lay w [.inr dd, .inr d0, .inl (.cells #[.slice (some ⟨b, o, none⟩) m cap, .bool wr] 59 (0, 0))] ∧
      Ow (lay w [.inr dd, .inr d0, .inl (.cells #[.slice (some ⟨b, o, none⟩) m cap, .bool wr] 59 (0, 0))]) (lay w [.inr d0, .inl (.cells #[.slice (some ⟨b, o, none⟩) m cap, .bool wr] 59 (0, 0))]).heap.size (.slice (some ⟨g, 0, none⟩) (j + 1) c) (rowF (pre wr l) (j + 1))) (fun _ v34 _ => m - 1 - (intOf v34).toNat)
  case atStart =>
    have h := ow_lit (w := w) (L := [.inr d0, .inl (.cells #[.slice (some ⟨b, o, none⟩) m cap, .bool wr] 59 (0, 0))]) (x := nth l 0) (lit_bd (by omega))
    exact ⟨0, posn w [d0.n, 1], 1, _, by omega, rfl, rfl, Classical.choose_spec (lay_fold w [_] [.inr d0, .inl (.cells #[.slice (some ⟨b, o, none⟩) m cap, .bool wr] 59 (0, 0))]), by rw [← Classical.choose_spec (lay_fold w [.inl (.cells #[.int .i64 (nth l 0)] 3 (0, 0))] [.inr d0, .inl (.cells #[.slice (some ⟨b, o, none⟩) m cap, .bool wr] 59 (0, 0))])]; exact h⟩
  case round =>
    obtain ⟨j, g, c, dd, hj, rfl, rfl, rfl, hO⟩ := hrel
    by_cases hlt : j + 1 < m
    · have hcl := fun d' => (ow_on (A := [.inr d']) hO).cell (i := j) (by rw [rowF_len]; omega)
      have hc1 : ∀ d', (lay w [.inr d', .inr dd, .inr d0, .inl (.cells #[.slice (some ⟨b, o, none⟩) m cap, .bool wr] 59 (0, 0))]).cell? ⟨g, j, none⟩ = some (.int .i64 (pre wr l j)) := fun d' => by have := hcl d'; rw [rowF_nth _ _ _ (by omega)] at this; exact this
      have b1 := HB0.out j (by omega)
      have b2 := HBs.out j hlt
      have b3 := HB0.out (j + 1) hlt
      have hst : rowF (pre wr l) (j + 1 + 1) = rowF (pre wr l) (j + 1) ++ [pre wr l j + stp wr l j] := rowF_succ _ _
      have hwf : (Lit.int .i64 (pre wr l j + stp wr l j)).wf = true := lit_bd (by omega)
      have H1 := Lib.hid (fun W h => HSt.out W j hlt h)
      have hlen : (rowF (pre wr l) (j + 1)).length ≤ 1000000000 := by rw [rowF_len]; omega
      have x0 : (0 : Int) ≤ (j : Int) := by omega
      have x1 : (j : Int) < (m : Int) - 1 := by omega
      have x2 : (j : Int) < ((j + 1 : Nat) : Int) := by omega
      have x3 : (j : Int) < (j : Int) + 1 := by omega
      have w1 : IntKind.i64.wrap (pre wr l j + stp wr l j) = pre wr l j + stp wr l j := IntWalk.i64_in _ (by omega)
      have hRl : (rowF (pre wr l) (j + 1)).length = j + 1 := rowF_len _ _
      have HST := Lib.hid hst
      have HO := Lib.hid hO
      have HRl := Lib.hid hRl
      clear hst hO hcl hRl
      generalize rowF (pre wr l) (j + 1) = R at *
      generalize pre wr l j = P at *
      generalize stp wr l j = S at *
      go_wp2_with fail
      refine region_mixT 10 [0, 0, 0, 0, 0, 0, 0, 0, 0, 1] (by kernel_rfl) (by kernel_rfl) (by kernel_rfl) (by kernel_rfl) (by simp) (by kernel_rfl) ?_
      simp only [List.take_succ_cons, List.take_zero, List.drop_succ_cons, List.drop_zero]
      repeat (first | (refine wpM_quiet (fun K hK => ?_); go_simp; first | (refine hK _ ?_; clear hK K) | (apply Exists.intro; refine ⟨fun _ => ?_, hK _ ?_⟩; (first | (go_at_call 27; exact bq (H1.out _ (HS.out.lay _)) (fun d => ⟨d, rfl⟩))); clear hK K)) | (refine wpM_special (fun K hK d => ?_); go_simp; refine hK _ _ (by first | exact lay_in w [_] _ | exact lay_in w [_, _] _ | exact lay_in w [_, _, _] _ | exact lay_in w [_, _, _, _] _ | exact lay_in w [_, _, _, _, _] _ | exact lay_in w [_, _, _, _, _, _] _) ?_; clear hK K))
      refine wpM_nil ?_
      intro d1
      rw [lay_bw]
      refine push_int rfl _ _ rfl (lay w [.inr d0, .inl (.cells #[.slice (some ⟨b, o, none⟩) m cap, .bool wr] 59 (0, 0))]) _ (P + S) 3 _ _ _ ?_ (ow_on (A := [_, _, _]) HO.out) ?_ rfl rfl hlen hwf ?_
      · exact lay_below (A := [_, _, _, _])
      · exact lay_get w _ 1 _ rfl
      intro v' d' hv'
      have hl2 : (R ++ [P + S]).length = j + 1 + 1 := by rw [List.length_append, HRl.out]; rfl
      obtain ⟨g', c', rfl, -⟩ := hv'.form1 (by rw [hl2]; omega)
      rw [hl2] at hv' ⊢
      have HV := Lib.hid hv'
      clear hv' hl2
      go_wp2_with fail
      go_roundw
      case rel => exact ⟨j + 1, g', c', d', hlt, rfl, by go_num, rfl, by rw [HST.out]; exact HV.out⟩
      case measure => simp [intOf]; omega
    · obtain rfl : m = j + 1 := by omega
      have x1 : ((j + 1 : Nat) : Int) - 1 ≤ (j : Int) := by omega
      have HO := Lib.hid hO
      clear hO
      have hg0 := (HO.out.1.lt g rfl).1
      have hpd : rowF (pre wr l) (j + 1) = rowF (dif wr l 0) (j + 1 - 0) := rfl
      rw [hpd] at HO
      clear HSt HBs HB0 hpd hr0 hp0
      go_wp2_with fail
      go_loopw [10, 50] (fun v10 v50 wr' => ∃ (k : Nat) (d1 : Ext), k ≤ order ∧ v10 = .slice (some ⟨g, 0, none⟩) (j + 1 - k) c ∧ v50 = .int .i64 (k : Int) ∧ wr' = lay w [.inr d1, .inr d0, .inl (.cells #[.slice (some ⟨b, o, none⟩) (j + 1) cap, .bool wr] 59 (0, 0))] ∧
        Ow (lay w [.inr d1, .inr d0, .inl (.cells #[.slice (some ⟨b, o, none⟩) (j + 1) cap, .bool wr] 59 (0, 0))]) (lay w [.inr d0, .inl (.cells #[.slice (some ⟨b, o, none⟩) (j + 1) cap, .bool wr] 59 (0, 0))]).heap.size (.slice (some ⟨g, 0, none⟩) (j + 1 - k) c) (rowF (dif wr l k) (j + 1 - k))) (fun _ v50 _ => order - (intOf v50).toNat)
      case atStart => exact ⟨0, dd, Nat.zero_le _, rfl, rfl, rfl, HO.out⟩
      case round =>
        obtain ⟨k, d1, hk, rfl, rfl, rfl, hO1⟩ := hrel
        by_cases hlt2 : k < order
        · obtain ⟨q, hq⟩ : ∃ q, j + 1 - k = q := ⟨_, rfl⟩
          have hD := fun i (hi : i + k < j + 1) => HBd.out k i (by omega) hi
          have hD1 := fun i (hi : i + (k + 1) < j + 1) => HBd.out (k + 1) i (by omega) hi
          rw [hq] at hO1 ⊢
          have hqk : q - 1 = j + 1 - (k + 1) := by omega
          have hqn : q ≤ 1000 := by omega
          have hmx : mx 0 ((q : Int) - 1) = ((q - 1 : Nat) : Int) := by unfold mx; split <;> omega
          have wq : IntKind.i64.wrap ((q : Int) - 1) = (q : Int) - 1 := IntWalk.i64_in _ (by omega)
          rw [← rowM_0 _ (dif wr l (k + 1))] at hO1
          have HO1 := Lib.hid hO1
          have HD := Lib.hid hD
          have HD1 := Lib.hid hD1
          have x5 : (k : Int) < (order : Int) := by omega
          clear hO1 hD hD1 HBd
          go_wp2_with fail
          go_loopw [56] (fun v56 wr' => ∃ (i : Nat) (d2 : Ext), i ≤ q - 1 ∧ v56 = .int .i64 (i : Int) ∧ wr' = lay w [.inr d2, .inr d0, .inl (.cells #[.slice (some ⟨b, o, none⟩) (j + 1) cap, .bool wr] 59 (0, 0))] ∧
            Ow (lay w [.inr d2, .inr d0, .inl (.cells #[.slice (some ⟨b, o, none⟩) (j + 1) cap, .bool wr] 59 (0, 0))]) (lay w [.inr d0, .inl (.cells #[.slice (some ⟨b, o, none⟩) (j + 1) cap, .bool wr] 59 (0, 0))]).heap.size (.slice (some ⟨g, 0, none⟩) q c) (rowM (dif wr l k) (dif wr l (k + 1)) q i)) (fun v56 _ => q - 1 - (intOf v56).toNat)
          case atStart => exact ⟨0, d1, Nat.zero_le _, rfl, rfl, HO1.out⟩
          case round =>
            obtain ⟨i, d2, hi, rfl, rfl, hO2⟩ := hrel
            by_cases hlt3 : i < q - 1
            · have e1 := fun d' => (ow_on (A := [.inr d']) hO2).cell (i := i + 1) (by rw [rowM_len]; omega)
              have e0 := fun d' => (ow_on (A := [.inr d']) hO2).cell (i := i) (by rw [rowM_len]; omega)
              have c1 : ∀ d', (lay w [.inr d', .inr d2, .inr d0, .inl (.cells #[.slice (some ⟨b, o, none⟩) (j + 1) cap, .bool wr] 59 (0, 0))]).cell? ⟨g, i + 1, none⟩ = some (.int .i64 (dif wr l k (i + 1))) := fun d' => by have := e1 d'; rw [rowM_nth _ _ _ _ _ (by omega), if_neg (by omega)] at this; exact this
              have c0 : ∀ d', (lay w [.inr d', .inr d2, .inr d0, .inl (.cells #[.slice (some ⟨b, o, none⟩) (j + 1) cap, .bool wr] 59 (0, 0))]).cell? ⟨g, i, none⟩ = some (.int .i64 (dif wr l k i)) := fun d' => by have := e0 d'; rw [rowM_nth _ _ _ _ _ (by omega), if_neg (by omega)] at this; exact this
              have b1 := HD1.out i (by omega)
              have hde : dif wr l (k + 1) i = dif wr l k (i + 1) - dif wr l k i := rfl
              rw [hde] at b1
              have w1 : IntKind.i64.wrap (dif wr l k (i + 1) - dif wr l k i) = dif wr l k (i + 1) - dif wr l k i := IntWalk.i64_in _ (by omega)
              have hwf : (Lit.int .i64 (dif wr l k (i + 1) - dif wr l k i)).wf = true := lit_bd b1
              have hset := rowM_set (dif wr l k) (dif wr l (k + 1)) q i (by omega)
              rw [hde] at hset
              have HO2 := Lib.hid hO2
              have HSet := Lib.hid hset
              have z0 : (0 : Int) ≤ (i : Int) := by omega
              have z1 : (i : Int) < (q : Int) := by omega
              have z2 : (0 : Int) ≤ (i : Int) + 1 := by omega
              have z3 : (i : Int) + 1 < (q : Int) := by omega
              have z4 : ((i : Int) + 1).toNat = i + 1 := by omega
              have z5 : (i : Int) < ((q - 1 : Nat) : Int) := by omega
              have w2 : IntKind.i64.wrap ((i : Int) + 1) = (i : Int) + 1 := IntWalk.i64_in _ (by omega)
              clear e0 e1 hO2 hset hde
              generalize dif wr l k (i + 1) = A1 at *
              generalize dif wr l k i = A0 at *
              go_wp2_with fail
              refine region_bw_tail 13 (by kernel_rfl) (by kernel_rfl) ?_
              simp only [List.take_succ_cons, List.take_zero, List.drop_succ_cons, List.drop_zero]
              repeat (go_big_quiet_step ((first | fail)))
              refine wpQuiet_nil ?_
              rintro w' ⟨d, rfl⟩
              rw [lay_bw]
              have h3 := ow_on (A := [.inr d]) HO2.out
              have kf : (lay w [.inr d, .inr d2, .inr d0, .inl (.cells #[.slice (some ⟨b, o, none⟩) (j + 1) cap, .bool wr] 59 (0, 0))]).frozen? ⟨g, i, none⟩ = false := h3.froz i
              have hs3 := ow_store h3 i (A1 - A0) hwf
              rw [HSet.out] at hs3
              obtain ⟨d3, hd3⟩ := lay_fold w [.inr d, .inr d2] [.inr d0, .inl (.cells #[.slice (some ⟨b, o, none⟩) (j + 1) cap, .bool wr] 59 (0, 0))]
              obtain ⟨d4, hd4⟩ := bw_store (w := lay w [.inr d0, .inl (.cells #[.slice (some ⟨b, o, none⟩) (j + 1) cap, .bool wr] 59 (0, 0))]) (d := d3) (i := i) (v := .int .i64 (A1 - A0)) hg0
              have s3 : (lay w [.inr d, .inr d2, .inr d0, .inl (.cells #[.slice (some ⟨b, o, none⟩) (j + 1) cap, .bool wr] 59 (0, 0))]).setCell ⟨g, i, none⟩ (.int .i64 (A1 - A0)) = lay w [.inr d4, .inr d0, .inl (.cells #[.slice (some ⟨b, o, none⟩) (j + 1) cap, .bool wr] 59 (0, 0))] := by
                have h5 : lay w [.inr d, .inr d2, .inr d0, .inl (.cells #[.slice (some ⟨b, o, none⟩) (j + 1) cap, .bool wr] 59 (0, 0))] = lay w (.inr d3 :: [.inr d0, .inl (.cells #[.slice (some ⟨b, o, none⟩) (j + 1) cap, .bool wr] 59 (0, 0))]) := hd3
                rw [h5]; exact hd4
              have hs4 : Ow (lay w [.inr d4, .inr d0, .inl (.cells #[.slice (some ⟨b, o, none⟩) (j + 1) cap, .bool wr] 59 (0, 0))]) (lay w [.inr d0, .inl (.cells #[.slice (some ⟨b, o, none⟩) (j + 1) cap, .bool wr] 59 (0, 0))]).heap.size (.slice (some ⟨g, 0, none⟩) q c) (rowM (dif wr l k) (dif wr l (k + 1)) q (i + 1)) := s3 ▸ hs3
              have HS4 := Lib.hid hs4
              clear h3 hs3 hs4 hd3 hd4
              go_wp2_with fail
              go_roundw
              case rel => exact ⟨i + 1, d4, by omega, by go_num, rfl, HS4.out⟩
              case measure => simp [intOf]; omega
            · obtain rfl : i = q - 1 := by omega
              have hO3 : Ow (lay w [.inr d2, .inr d0, .inl (.cells #[.slice (some ⟨b, o, none⟩) (j + 1) cap, .bool wr] 59 (0, 0))]) (lay w [.inr d0, .inl (.cells #[.slice (some ⟨b, o, none⟩) (j + 1) cap, .bool wr] 59 (0, 0))]).heap.size (.slice (some ⟨g, 0, none⟩) (q - 1) c) (rowF (dif wr l (k + 1)) (q - 1)) := by
                by_cases hq0 : q = 0
                · subst hq0; exact hO2
                · obtain ⟨p, rfl⟩ : ∃ p, q = p + 1 := ⟨q - 1, by omega⟩
                  rw [Nat.add_sub_cancel, rowM_cut] at hO2
                  have := ow_take hO2
                  rw [rowF_len] at this
                  exact this
              have hcap := hO2.sl
              have hcq : q ≤ c := by
                obtain ⟨_, cap', he, hcc, -⟩ := hcap
                simp only [Value.slice.injEq] at he
                have := hcc.1
                rw [rowM_len] at this; omega
              have HO3 := Lib.hid hO3
              have z0 : (0 : Int) ≤ ((q - 1 : Nat) : Int) := by omega
              have z1 : ((q - 1 : Nat) : Int) ≤ (c : Int) := by omega
              have z2 : ((q - 1 : Nat) : Int).toNat = q - 1 := by omega
              clear hO2 hO3 hcap
              rw [hqk] at *
              go_wp2_with fail
              go_roundw
              case rel => exact ⟨k + 1, d2, hlt2, by rw [show j + 1 - (k + 1) = j - k by omega], by go_num, rfl, HO3.out⟩
              case measure => simp [intOf]; omega
        · obtain rfl : k = order := by omega
          have HO1 := Lib.hid hO1
          clear hO1
          go_wp2
          obtain ⟨z, hz⟩ := lay_ex w [.inr d1, .inr d0, .inl (.cells #[.slice (some ⟨b, o, none⟩) (j + 1) cap, .bool wr] 59 (0, 0))]
          have h := HO1.out
          rw [hz] at h
          exact bodyPost_ret (v := .tuple #[.slice (some ⟨g, 0, none⟩) (j + 1 - k) c, .int .i64 0]) (by simp [results, Tryz.results11, go_sem]) rfl ⟨_, z, rfl, hz, h.le (lay_extends w _).size⟩
end Go.Proofs.YtmmfkleplbofgaaGreatDoor
/- audit: Differences' errors; what the examples of the chapter compute. -/
namespace Go.Proofs.YtmmfkleplbofgaaGreatDoor
open Go.RowKit

def difE (wr : Bool) (l : List Int) (order : Int) : Int := if givE wr l = 0 then (if 0 ≤ order ∧ order ≤ 5 then 0 else 2) else givE wr l
set_option maxHeartbeats 1000000 in
theorem aud_Differences_no (v : Value) (l : List Int) (wr : Bool) (order : Int) (w : World) (hs : Sl w v l) (he : difE wr l order ≠ 0) :
    Calls Tryz.prog 11 #[v, .int .i64 order, .bool wr] w (RwE w [] (difE wr l order)) := by
  have HC := Lib.hid (fun W (h : Sl W v l) => aud_check v l wr W h)
  have HS := Lib.hid hs
  obtain ⟨a, cap, rfl, -⟩ := hs
  have hE : difE wr l order = if givE wr l = 0 then (if 0 ≤ order ∧ order ≤ 5 then 0 else 2) else givE wr l := rfl
  rw [hE] at he ⊢
  generalize l.length = m at *
  generalize givE wr l = E at *
  clear hE
  by_cases h0 : E = 0
  · subst h0
    rw [if_pos rfl] at he ⊢
    have hno : ¬ (0 ≤ order ∧ order ≤ 5) := fun h => he (if_pos h)
    rw [if_neg hno]
    clear he
    by_cases h1 : order < 0
    · have t1 : decide (order < 0) = true := decide_eq_true h1
      refine lay_start ?_
      go_enter Tryz.func11, Tryz.ntmps11
      go_wp2_with (go_at_call 26; refine (HC.out _ (HS.out.lay _)).mono ?_; rintro e w' ⟨rfl, d, rfl⟩)
      obtain ⟨z, hz⟩ := lay_ex w [.inr d, .inl (.cells #[.slice a m cap, .bool wr] 59 (0, 0))]
      exact bodyPost_ret (v := .tuple #[.slice none 0 0, .int .i64 2]) (by simp [results, Tryz.results11, go_sem]) rfl ⟨_, z, rfl, hz, Ow.nil _ _⟩
    · have t1 : decide (order < 0) = false := decide_eq_false h1
      have t2 : decide (5 < order) = true := decide_eq_true (by omega)
      refine lay_start ?_
      go_enter Tryz.func11, Tryz.ntmps11
      go_wp2_with (go_at_call 26; refine (HC.out _ (HS.out.lay _)).mono ?_; rintro e w' ⟨rfl, d, rfl⟩)
      obtain ⟨z, hz⟩ := lay_ex w [.inr d, .inl (.cells #[.slice a m cap, .bool wr] 59 (0, 0))]
      exact bodyPost_ret (v := .tuple #[.slice none 0 0, .int .i64 2]) (by simp [results, Tryz.results11, go_sem]) rfl ⟨_, z, rfl, hz, Ow.nil _ _⟩
  · rw [if_neg h0]
    have t1 : (E == 0) = false := beq_eq_false_iff_ne.2 h0
    clear he h0
    refine lay_start ?_
    go_enter Tryz.func11, Tryz.ntmps11
    go_wp2_with (go_at_call 26; refine (HC.out _ (HS.out.lay _)).mono ?_; rintro e w' ⟨rfl, d, rfl⟩)
    obtain ⟨z, hz⟩ := lay_ex w [.inr d, .inl (.cells #[.slice a m cap, .bool wr] 59 (0, 0))]
    exact bodyPost_ret (v := .tuple #[.slice none 0 0, .int .i64 E]) (by simp [results, Tryz.results11, go_sem]) rfl ⟨_, z, rfl, hz, Ow.nil _ _⟩
/-- Differences, all ways. -/
def dfL (wr : Bool) (l : List Int) (order : Int) : List Int := if difE wr l order = 0 then difL wr l order.toNat else []
theorem aud_Diff (v : Value) (l : List Int) (wr : Bool) (order : Int) (w : World) (hs : Sl w v l) :
    Calls Tryz.prog 11 #[v, .int .i64 order, .bool wr] w (RwE w (dfL wr l order) (difE wr l order)) := by
  unfold dfL
  by_cases h : difE wr l order = 0
  · rw [if_pos h, h]
    have h2 : givE wr l = 0 ∧ 0 ≤ order ∧ order ≤ 5 := by
      unfold difE at h
      split at h
      · split at h
        · exact ⟨‹_›, ‹_›⟩
        · cases h
      · exact absurd h ‹_›
    obtain ⟨k, rfl⟩ := Int.eq_ofNat_of_zero_le h2.2.1
    rw [Int.toNat_natCast]
    exact aud_Differences v l wr k w hs (giv_iff.1 h2.1) (by omega)
  · rw [if_neg h]
    exact aud_Differences_no v l wr order w hs h

theorem eg_d1 : difE false [0, 1, 4, 9] 2 = 0 ∧ dfL false [0, 1, 4, 9] 2 = [2, 2] := by decide +kernel
theorem eg_d2 : difE true [215990, 10, 30] 1 = 0 ∧ dfL true [215990, 10, 30] 1 = [20, 20] := by decide +kernel
theorem eg_p : gvE false [10, 20, 30, 45, 50, 60] 0 = 0 ∧ posB false [10, 20, 30, 45, 50, 60] 0 = false ∧ posK false [10, 20, 30, 45, 50, 60] 0 = 2 := by decide +kernel
theorem eg_rep : repL false [10, 20, 30, 45, 50, 60] 0 3 = [39, 40, 41] := by
  have h1 : rawL false [10, 20, 30, 45, 50, 60] 0 3 = [38, 39, 40, 41, 42] := by decide +kernel
  have h2 : once (rawL false [10, 20, 30, 45, 50, 60] 0 3) = [38, 39, 40, 41, 42] :=
    asc_eq (asc_once _) (by unfold Asc; decide) (fun x => by rw [mem_once, h1])
  unfold repL
  rw [h2]
  decide +kernel
theorem eg_r : rprE false [10, 20, 30, 45, 50, 60] 0 3 = 0 ∧ rprL false [10, 20, 30, 45, 50, 60] 0 3 = [39, 40, 41] := by
  have h1 : rprE false [10, 20, 30, 45, 50, 60] 0 3 = 0 := by
    unfold rprE
    rw [if_pos eg_p.1, if_pos (by decide), show (3 : Int).toNat = 3 from rfl, eg_rep]
    decide
  refine ⟨h1, ?_⟩
  unfold rprL
  rw [if_pos h1, show (3 : Int).toNat = 3 from rfl, eg_rep]
end Go.Proofs.YtmmfkleplbofgaaGreatDoor
/- The reference of audit: permitted, Given, mod, step, Bend, Differences. -/
namespace Go.Proofs.YtmmfkleplbofgaaGreatDoor
open Go.RowKit

set_option maxHeartbeats 400000 in
theorem re_permitted (wr : Bool) (x : Int) (w : World) :
    Calls Tryz.prog 83 #[.int .i64 x, .bool wr] w fun e w' => e = .returned (.bool (permB wr x)) ∧ w' = w := by
  cases wr
  · rw [perm_n]
    by_cases h : -1048576 ≤ x
    · rw [decide_eq_true h, Bool.true_and]
      go_enter Tryz.func83, Tryz.ntmps83
      go_wp2
      go_ret
      exact ⟨rfl, rfl⟩
    · rw [decide_eq_false h, Bool.false_and]
      go_enter Tryz.func83, Tryz.ntmps83
      go_wp2
      go_ret
      exact ⟨rfl, rfl⟩
  · rw [perm_w]
    by_cases h : 0 ≤ x
    · rw [decide_eq_true h, Bool.true_and]
      go_enter Tryz.func83, Tryz.ntmps83
      go_wp2
      go_ret
      exact ⟨rfl, rfl⟩
    · rw [decide_eq_false h, Bool.false_and]
      go_enter Tryz.func83, Tryz.ntmps83
      go_wp2
      go_ret
      exact ⟨rfl, rfl⟩
theorem re_mod (n : Int) (w : World) :
    Calls Tryz.prog 87 #[.int .i64 n] w fun e w' => e = .returned (.int .i64 (frm true n)) ∧ w' = w := by
  have e := tmod2 n
  have t1 := Int.tmod_lt_of_pos n (show (0 : Int) < 216000 by decide)
  have t2 : -216000 < n.tmod 216000 := Int.lt_tmod_of_pos n (by decide)
  have w1 : IntKind.i64.wrap (n.tmod 216000 + 216000) = n.tmod 216000 + 216000 := IntWalk.i64_in _ (by omega)
  have hE : frm true n = n % 216000 := rfl
  rw [hE, ← e]
  clear e hE
  go_enter Tryz.func87, Tryz.ntmps87
  go_wp2
  go_ret
  exact ⟨rfl, rfl⟩
theorem re_step (a b : Int) (wr : Bool) (w : World) (h1 : -1099511627776 ≤ b - a) (h2 : b - a ≤ 1099511627776) :
    Calls Tryz.prog 100 #[.int .i64 a, .int .i64 b, .bool wr] w fun e w' => e = .returned (.int .i64 (frm wr (b - a))) ∧ w' = w := by
  have w1 : IntKind.i64.wrap (b - a) = b - a := IntWalk.i64_in _ (by omega)
  have HM := Lib.hid (fun W => re_mod (b - a) W)
  cases wr
  · go_enter Tryz.func100, Tryz.ntmps100
    go_wp2
    go_ret
    exact ⟨rfl, rfl⟩
  · go_enter Tryz.func100, Tryz.ntmps100
    go_wp2_with (go_at_call 87; refine (HM.out _).mono ?_; rintro e w' ⟨rfl, rfl⟩)
    go_ret
    exact ⟨rfl, rfl⟩
theorem re_Bend (n : Int) (w : World) :
    Calls Tryz.prog 56 #[.int .i64 n] w fun e w' => e = .returned (.bool (decide (0 ≤ n ∧ n ≤ 1000))) ∧ w' = w := by
  by_cases h : 0 ≤ n
  · rw [show decide (0 ≤ n ∧ n ≤ 1000) = decide (n ≤ 1000) by simp [h]]
    go_enter Tryz.func56, Tryz.ntmps56
    go_wp2
    go_ret
    exact ⟨rfl, rfl⟩
  · rw [show decide (0 ≤ n ∧ n ≤ 1000) = false by simp; omega]
    go_enter Tryz.func56, Tryz.ntmps56
    go_wp2
    go_ret
    exact ⟨rfl, rfl⟩
theorem all_take {l : List Int} {p : Int → Bool} {k : Nat} (hk : k < l.length) (h : (l.take k).all p = true) (hp : p (nth l k) = true) : (l.take (k + 1)).all p = true := by
  rw [List.take_succ_eq_append_getElem hk, List.all_append, h]
  have e : nth l k = l[k] := by unfold nth; simp [List.getD, hk]
  rw [e] at hp
  simp [hp]
theorem all_no {l : List Int} {p : Int → Bool} {k : Nat} (hk : k < l.length) (hp : p (nth l k) = false) : l.all p = false := by
  cases h : l.all p
  · rfl
  · have := List.all_eq_true.1 h _ (nth_mem hk)
    rw [hp] at this; cases this
set_option maxHeartbeats 1000000 in
theorem re_Given (v : Value) (l : List Int) (wr : Bool) (w : World) (hs : Sl w v l) :
    Calls Tryz.prog 55 #[v, .bool wr] w fun e w' => e = .returned (.int .i64 (givE wr l)) ∧ w' = w := by
  have hG : givE wr l = if l.length < 3 ∨ 1000 < l.length then 3 else if l.all (permB wr) then 0 else 1 := rfl
  by_cases h1 : l.length < 3
  · rw [hG, if_pos (.inl h1)]
    obtain ⟨a, cap, rfl, -⟩ := hs
    clear hG
    generalize l.length = m at *
    have t1 : decide ((m : Int) < 3) = true := decide_eq_true (by omega)
    go_enter Tryz.func55, Tryz.ntmps55
    go_wp2
    go_ret
    exact ⟨rfl, rfl⟩
  by_cases h2 : 1000 < l.length
  · rw [hG, if_pos (.inr h2)]
    obtain ⟨a, cap, rfl, -⟩ := hs
    clear hG
    generalize l.length = m at *
    have t1 : decide ((m : Int) < 3) = false := decide_eq_false (by omega)
    have t2 : decide ((1000 : Int) < (m : Int)) = true := decide_eq_true (by omega)
    go_enter Tryz.func55, Tryz.ntmps55
    go_wp2
    go_ret
    exact ⟨rfl, rfl⟩
  rw [hG, if_neg (by omega)]
  obtain ⟨b, o, cap, rfl, hc, -, hb, hr⟩ := hs.open (by omega)
  obtain ⟨m, hm⟩ : ∃ m, l.length = m := ⟨_, rfl⟩
  have HT := Lib.hid (fun k (hk : k < m) => all_take (l := l) (p := permB wr) (k := k) (by omega))
  have HN := Lib.hid (fun k (hk : k < m) => all_no (l := l) (p := permB wr) (k := k) (by omega))
  have HL : Hid (l.take m = l) := Lib.hid (by rw [← hm]; exact List.take_length)
  rw [hm] at hr hc h1 h2 ⊢
  have HR := Lib.hid hr
  have t1 : decide ((m : Int) < 3) = false := decide_eq_false (by omega)
  have t2 : decide ((1000 : Int) < (m : Int)) = false := decide_eq_false (by omega)
  clear hG hs hr hm
  obtain ⟨A, hA⟩ : ∃ A, (if l.all (permB wr) = true then (0 : Int) else 1) = A := ⟨_, rfl⟩
  have HA := Lib.hid hA
  rw [hA]
  clear hA
  go_enter Tryz.func55, Tryz.ntmps55
  go_wp2_with fail
  go_loop [5] (fun v5 => ∃ k : Nat, k ≤ m ∧ v5 = .int .i64 (k : Int) ∧ (l.take k).all (permB wr) = true) (fun v5 => m - (intOf v5).toNat)
  case atStart => exact ⟨0, Nat.zero_le _, rfl, rfl⟩
  case round =>
    obtain ⟨k, hk, rfl, hall⟩ := hrel
    have HAll := Lib.hid hall
    clear hall
    by_cases hlt : k < m
    · have e1 := HR.out k hlt
      have x1 : (k : Int) < (m : Int) := by omega
      cases hp : permB wr (nth l k)
      · have HF : Hid (A = 1) := Lib.hid (by rw [← HA.out, HN.out k hlt hp]; rfl)
        go_wp2_with (go_at_call 83; refine (re_permitted _ _ _).mono ?_; rintro e w' ⟨rfl, rfl⟩)
        go_ret
        exact ⟨ret_int HF.out.symm, rfl⟩
      · have HF := Lib.hid (HT.out k hlt HAll.out hp)
        go_wp2_with (go_at_call 83; refine (re_permitted _ _ _).mono ?_; rintro e w' ⟨rfl, rfl⟩)
        go_round
        case rel => exact ⟨k + 1, hlt, by go_num, HF.out⟩
        case measure => simp [intOf]; omega
    · obtain rfl : k = m := by omega
      have HF : Hid (A = 0) := Lib.hid (by have := HAll.out; rw [HL.out] at this; rw [← HA.out, if_pos this])
      go_wp2
      go_ret
      exact ⟨ret_int HF.out.symm, rfl⟩
end Go.Proofs.YtmmfkleplbofgaaGreatDoor
/- The reference of audit: Differences. -/
namespace Go.Proofs.YtmmfkleplbofgaaGreatDoor
open Go.RowKit

set_option maxHeartbeats 1000000 in
set_option maxRecDepth 100000 in
theorem re_Differences (v : Value) (l : List Int) (wr : Bool) (order : Nat) (w : World) (hs : Sl w v l) (hg : Giv wr l) (ho : order ≤ 5) :
    Calls Tryz.prog 84 #[v, .int .i64 (order : Int), .bool wr] w (Rw w (difL wr l order)) := by
  have hn := hg.n1000
  have hn3 := hg.n3
  have HSt := Lib.hid (fun W (k : Nat) (hk : k + 1 < l.length) => re_step (nth l k) (nth l (k + 1)) wr W (by have := perm_bd (hg.perm k (by omega)); have := perm_bd (hg.perm (k + 1) hk); omega) (by have := perm_bd (hg.perm k (by omega)); have := perm_bd (hg.perm (k + 1) hk); omega))
  have HB0 := Lib.hid (fun k hk => pre_bd hg k hk)
  have HBs := Lib.hid (fun (k : Nat) (hk : k + 1 < l.length) => stp_bd hg hk)
  have HBd := Lib.hid (fun k i (hk : k ≤ 6) (hi : i + k < l.length) => dif_bd5 hg hk hi)
  have hp0 := perm_bd (hg.perm 0 (by omega))
  obtain ⟨b, o, cap, rfl, hc, -, hb, hr⟩ := hs.open (by omega)
  have hr0 := hr 0 (by omega)
  rw [Nat.add_zero] at hr0
  obtain ⟨m, hm⟩ : ∃ m, l.length = m := ⟨_, rfl⟩
  have hdl : difL wr l order = rowF (dif wr l order) (m - order) := by rw [← hm]; rfl
  rw [hdl]
  rw [hm] at HSt HB0 HBs HBd hr hn hn3 hc ⊢
  have HR := Lib.hid hr
  have y1 : (0 : Int) < (m : Int) := by omega
  clear hr hs hg hm hdl
  refine lay_start ?_
  go_enter Tryz.func84, Tryz.ntmps84
  go_wp2_with fail
  go_loopw [7, 8] (fun v7 v8 wr' => ∃ (j g c : Nat) (dd : Ext), j + 1 ≤ m ∧ v7 = .slice (some ⟨g, 0, none⟩) (j + 1) c ∧ v8 = .int .i64 ((j : Int) + 1) ∧ wr' = lay w [.inr dd] ∧
      Ow (lay w [.inr dd]) (lay w []).heap.size (.slice (some ⟨g, 0, none⟩) (j + 1) c) (rowF (pre wr l) (j + 1))) (fun _ v8 _ => m - (intOf v8).toNat)
  case atStart =>
    have h := ow_lit (w := w) (L := []) (x := nth l 0) (lit_bd (by omega))
    exact ⟨0, posn w [], 1, _, by omega, rfl, rfl, Classical.choose_spec (lay_fold w [_] []), by rw [← Classical.choose_spec (lay_fold w [.inl (.cells #[.int .i64 (nth l 0)] 3 (0, 0))] [])]; exact h⟩
  case round =>
    obtain ⟨j, g, c, dd, hj, rfl, rfl, rfl, hO⟩ := hrel
    by_cases hlt : j + 1 < m
    · have hcl := fun d' => (ow_on (A := [.inr d']) hO).cell (i := j) (by rw [rowF_len]; omega)
      have hc1 : ∀ d', (lay w [.inr d', .inr dd]).cell? ⟨g, j, none⟩ = some (.int .i64 (pre wr l j)) := fun d' => by have := hcl d'; rw [rowF_nth _ _ _ (by omega)] at this; exact this
      have k0 := HR.out j (by omega)
      have k1 := HR.out (j + 1) hlt
      have b1 := HB0.out j (by omega)
      have b2 := HBs.out j hlt
      have b3 := HB0.out (j + 1) hlt
      have hst : rowF (pre wr l) (j + 1 + 1) = rowF (pre wr l) (j + 1) ++ [pre wr l j + stp wr l j] := rowF_succ _ _
      have hwf : (Lit.int .i64 (pre wr l j + stp wr l j)).wf = true := lit_bd (by omega)
      have H1 := Lib.hid (fun W => HSt.out W j hlt)
      have hse : frm wr (nth l (j + 1) - nth l j) = stp wr l j := rfl
      rw [hse] at H1
      have hlen : (rowF (pre wr l) (j + 1)).length ≤ 1000000000 := by rw [rowF_len]; omega
      have hRl : (rowF (pre wr l) (j + 1)).length = j + 1 := rowF_len _ _
      have x0 : (0 : Int) ≤ (j : Int) := by omega
      have x1 : (j : Int) + 1 < (m : Int) := by omega
      have x2 : (j : Int) < ((j + 1 : Nat) : Int) := by omega
      have x3 : (j : Int) < (j : Int) + 1 := by omega
      have x4 : (j : Int) < (m : Int) := by omega
      have x5 : (0 : Int) ≤ (j : Int) + 1 := by omega
      have x6 : ((j : Int) + 1).toNat = j + 1 := by omega
      have w1 : IntKind.i64.wrap (pre wr l j + stp wr l j) = pre wr l j + stp wr l j := IntWalk.i64_in _ (by omega)
      have w3 : IntKind.i64.wrap ((j : Int) + 1 + 1) = (j : Int) + 1 + 1 := IntWalk.i64_in _ (by omega)
      have HST := Lib.hid hst
      have HO := Lib.hid hO
      have HRl := Lib.hid hRl
      clear hst hO hcl hRl hse
      generalize rowF (pre wr l) (j + 1) = R at *
      generalize pre wr l j = P at *
      generalize stp wr l j = S at *
      generalize nth l (j + 1) = A1 at *
      generalize nth l j = A0 at *
      have w0 : IntKind.i64.wrap (j : Int) = (j : Int) := IntWalk.i64_in _ (by omega)
      go_wp2_with fail
      refine region_mixT 19 [0, 0, 0, 0, 0, 0, 0, 0, 0, 0, 0, 0, 0, 0, 0, 0, 0, 0, 1] (by kernel_rfl) (by kernel_rfl) (by kernel_rfl) (by kernel_rfl) (by simp) (by kernel_rfl) ?_
      simp only [List.take_succ_cons, List.take_zero, List.drop_succ_cons, List.drop_zero]
      repeat (first | (refine wpM_quiet (fun K hK => ?_); go_simp; first | (refine hK _ ?_; clear hK K) | (apply Exists.intro; refine ⟨fun _ => ?_, hK _ ?_⟩; (first | (go_at_call 100; exact bqs (H1.out _) ⟨noExt _, (bw_noExt _).symm⟩)); clear hK K)) | (refine wpM_special (fun K hK d => ?_); go_simp; refine hK _ _ (by first | exact lay_in w [_] _ | exact lay_in w [_, _] _ | exact lay_in w [_, _, _] _ | exact lay_in w [_, _, _, _] _ | exact lay_in w [_, _, _, _, _] _ | exact lay_in w [_, _, _, _, _, _] _) ?_; clear hK K))
      refine wpM_nil ?_
      intro d1
      rw [lay_bw]
      clear w0
      refine push_int rfl _ _ rfl (lay w []) _ (P + S) 3 _ _ _ ?_ (ow_on (A := [_, _, _]) HO.out) ?_ rfl rfl hlen hwf ?_
      · exact lay_below (A := [_, _, _, _])
      · exact lay_get w _ 1 _ rfl
      intro v' d' hv'
      have hl2 : (R ++ [P + S]).length = j + 1 + 1 := by rw [List.length_append, HRl.out]; rfl
      obtain ⟨g', c', rfl, -⟩ := hv'.form1 (by rw [hl2]; omega)
      rw [hl2] at hv' ⊢
      have HV := Lib.hid hv'
      clear hv' hl2
      go_wp2_with fail
      go_roundw
      case rel => exact ⟨j + 1, g', c', d', hlt, rfl, by first | rfl | exact congrArg (Value.int .i64) (by omega), rfl, by rw [HST.out]; exact HV.out⟩
      case measure => simp [intOf]; omega
    · obtain rfl : m = j + 1 := by omega
      have HO := Lib.hid hO
      clear hO
      have hpd : rowF (pre wr l) (j + 1) = rowF (dif wr l 0) (j + 1 - 0) := rfl
      rw [hpd] at HO
      clear HSt HBs HB0 hpd hr0 hp0 HR
      go_wp2_with fail
      go_loopw [7, 9] (fun v7 v9 wr' => ∃ (k : Nat) (dq : Ext), k ≤ order ∧ v9 = .int .i64 (k : Int) ∧ wr' = lay w [.inr dq] ∧
        Ow (lay w [.inr dq]) (lay w []).heap.size v7 (rowF (dif wr l k) (j + 1 - k))) (fun _ v9 _ => order - (intOf v9).toNat)
      case atStart => exact ⟨0, dd, Nat.zero_le _, rfl, rfl, HO.out⟩
      case round =>
        obtain ⟨k, dq, hk, rfl, rfl, hO1⟩ := hrel
        by_cases hlt2 : k < order
        · obtain ⟨q, hq⟩ : ∃ q, j + 1 - k = q := ⟨_, rfl⟩
          have hD := fun i (hi : i + k < j + 1) => HBd.out k i (by omega) hi
          have hD1 := fun i (hi : i + (k + 1) < j + 1) => HBd.out (k + 1) i (by omega) hi
          rw [hq] at hO1
          have hqk : q - 1 = j + 1 - (k + 1) := by omega
          have hqn : q ≤ 1000 := by omega
          obtain ⟨a1, c1, hform⟩ := hO1.form
          rw [rowF_len] at hform
          subst hform
          have HO1 := Lib.hid hO1
          have HD := Lib.hid hD
          have HD1 := Lib.hid hD1
          have x5 : (k : Int) < (order : Int) := by omega
          clear hO1 hD hD1 HBd
          go_wp2_with fail
          go_loopw [10, 11] (fun v10 v11 wr' => ∃ (i : Nat) (d2 : Ext), i ≤ q - 1 ∧ v11 = .int .i64 ((i : Int) + 1) ∧ wr' = lay w [.inr d2, .inr dq] ∧
            Ow (lay w [.inr d2, .inr dq]) (lay w [.inr dq]).heap.size v10 (rowF (dif wr l (k + 1)) i)) (fun _ v11 _ => q - (intOf v11).toNat)
          case atStart => exact ⟨0, noExt _, Nat.zero_le _, rfl, (bw_noExt _).symm, Ow.nil _ _⟩
          case round =>
            obtain ⟨i, d2, hi, rfl, rfl, hO2⟩ := hrel
            by_cases hlt3 : i < q - 1
            · obtain ⟨g1, c1', he, -⟩ := HO1.out.form1 (by rw [rowF_len]; omega)
              simp only [Value.slice.injEq] at he
              obtain ⟨rfl, -, -⟩ := he
              have e1 := fun d' => (ow_on (A := [.inr d', .inr d2]) HO1.out).cell (i := i + 1) (by rw [rowF_len]; omega)
              have e0 := fun d' => (ow_on (A := [.inr d', .inr d2]) HO1.out).cell (i := i) (by rw [rowF_len]; omega)
              have c1 : ∀ d', (lay w [.inr d', .inr d2, .inr dq]).cell? ⟨g1, i + 1, none⟩ = some (.int .i64 (dif wr l k (i + 1))) := fun d' => by have := e1 d'; rw [rowF_nth _ _ _ (by omega)] at this; exact this
              have c0 : ∀ d', (lay w [.inr d', .inr d2, .inr dq]).cell? ⟨g1, i, none⟩ = some (.int .i64 (dif wr l k i)) := fun d' => by have := e0 d'; rw [rowF_nth _ _ _ (by omega)] at this; exact this
              have b1 := HD1.out i (by omega)
              have hde : dif wr l (k + 1) i = dif wr l k (i + 1) - dif wr l k i := rfl
              rw [hde] at b1
              have w1 : IntKind.i64.wrap (dif wr l k (i + 1) - dif wr l k i) = dif wr l k (i + 1) - dif wr l k i := IntWalk.i64_in _ (by omega)
              have hwf : (Lit.int .i64 (dif wr l k (i + 1) - dif wr l k i)).wf = true := lit_bd b1
              have hst := rowF_succ (dif wr l (k + 1)) i
              rw [hde] at hst
              have hRl : (rowF (dif wr l (k + 1)) i).length ≤ 1000000000 := by rw [rowF_len]; omega
              have HO2 := Lib.hid hO2
              have HST := Lib.hid hst
              have z0 : (0 : Int) ≤ (i : Int) := by omega
              have z1 : (i : Int) < (q : Int) := by omega
              have z2 : (0 : Int) ≤ (i : Int) + 1 := by omega
              have z3 : (i : Int) + 1 < (q : Int) := by omega
              have z4 : ((i : Int) + 1).toNat = i + 1 := by omega
              have w3 : IntKind.i64.wrap ((i : Int) + 1 + 1) = (i : Int) + 1 + 1 := IntWalk.i64_in _ (by omega)
              clear e0 e1 hO2 hst hde
              generalize rowF (dif wr l (k + 1)) i = R at *
              generalize dif wr l k (i + 1) = A1 at *
              generalize dif wr l k i = A0 at *
              have w0 : IntKind.i64.wrap (i : Int) = (i : Int) := IntWalk.i64_in _ (by omega)
              go_wp2_with fail
              refine region_mixT 12 [0, 0, 0, 0, 0, 0, 0, 0, 0, 0, 0, 1] (by kernel_rfl) (by kernel_rfl) (by kernel_rfl) (by kernel_rfl) (by simp) (by kernel_rfl) ?_
              simp only [List.take_succ_cons, List.take_zero, List.drop_succ_cons, List.drop_zero]
              repeat (first | (refine wpM_quiet (fun K hK => ?_); go_simp; first | (refine hK _ ?_; clear hK K) | (apply Exists.intro; refine ⟨fun _ => ?_, hK _ ?_⟩; (first | fail); clear hK K)) | (refine wpM_special (fun K hK d => ?_); go_simp; refine hK _ _ (by first | exact lay_in w [_] _ | exact lay_in w [_, _] _ | exact lay_in w [_, _, _] _ | exact lay_in w [_, _, _, _] _ | exact lay_in w [_, _, _, _, _] _ | exact lay_in w [_, _, _, _, _, _] _) ?_; clear hK K))
              refine wpM_nil ?_
              intro d1
              rw [lay_bw]
              clear w0
              refine push_int rfl _ _ rfl (lay w [.inr dq]) _ (A1 - A0) 3 _ _ _ ?_ (ow_on (A := [_, _, _]) HO2.out) ?_ rfl rfl hRl hwf ?_
              · exact lay_below (A := [_, _, _, _])
              · exact lay_get w _ 1 _ rfl
              intro v' d' hv'
              have HV := Lib.hid hv'
              clear hv'
              go_wp2_with fail
              go_roundw
              case rel => exact ⟨i + 1, d', by omega, by first | rfl | exact congrArg (Value.int .i64) (by omega), rfl, by rw [HST.out]; exact HV.out⟩
              case measure => simp [intOf]; omega
            · obtain rfl : i = q - 1 := by omega
              rw [hqk] at hO2
              obtain ⟨e, he⟩ := lay_all w [.inr d2, .inr dq]
              have hO3 : Ow (lay w [.inr e]) (lay w []).heap.size u10 (rowF (dif wr l (k + 1)) (j + 1 - (k + 1))) := by rw [← he]; exact hO2.le (lay_extends w [.inr dq]).size
              have HO3 := Lib.hid hO3
              have HE := Lib.hid he
              have x7 : (q : Int) ≤ ((q - 1 : Nat) : Int) + 1 := by omega
              clear hO2 hO3 he
              go_wp2_with fail
              go_roundw
              case rel => exact ⟨k + 1, e, hlt2, by go_num, HE.out, HO3.out⟩
              case measure => simp [intOf]; omega
        · obtain rfl : k = order := by omega
          have HO1 := Lib.hid hO1
          clear hO1
          go_wp2
          go_ret
          obtain ⟨z, hz⟩ := lay_ex w [.inr dq]
          exact ⟨_, z, rfl, hz, by rw [← hz]; exact HO1.out⟩
end Go.Proofs.YtmmfkleplbofgaaGreatDoor
/- The reference of audit: Centres, Possible. -/
namespace Go.Proofs.YtmmfkleplbofgaaGreatDoor
open Go.RowKit

theorem dif2 (wr : Bool) (l : List Int) (i : Nat) : dif wr l 2 i = sec wr l (i + 1) := by
  show (pre wr l (i + 2) - pre wr l (i + 1)) - (pre wr l (i + 1) - pre wr l i) = stp wr l (i + 1) - stp wr l i
  have h1 : pre wr l (i + 2) = pre wr l (i + 1) + stp wr l (i + 1) := rfl
  have h2 : pre wr l (i + 1) = pre wr l i + stp wr l i := rfl
  omega
set_option maxHeartbeats 1000000 in
set_option maxRecDepth 100000 in
theorem re_Centres (v : Value) (l : List Int) (wr : Bool) (bend : Int) (w : World) (hs : Sl w v l) (hg : Giv wr l) (b0 : 0 ≤ bend) (b1 : bend ≤ 1000) :
    Calls Tryz.prog 57 #[v, .int .i64 bend, .bool wr] w (Rw w (badL wr l bend 1 (l.length - 1))) := by
  have hn := hg.n1000
  have hn3 := hg.n3
  have HD := Lib.hid (fun W (h : Sl W v l) => re_Differences v l wr 2 W h hg (by decide))
  have HB := Lib.hid (fun (k : Nat) (h0 : 1 ≤ k) (h1 : k + 1 < l.length) => sec_bd hg h0 h1)
  have HS := Lib.hid hs
  obtain ⟨b, o, cap, rfl, -⟩ := hs.open (by omega)
  obtain ⟨m, hm⟩ : ∃ m, l.length = m := ⟨_, rfl⟩
  have hdl : difL wr l 2 = rowF (dif wr l 2) (m - 2) := by rw [← hm]; rfl
  rw [hdl] at HD
  rw [hm] at HD HB HS hn hn3 ⊢
  have w2 : IntKind.i64.wrap (bend + 2) = bend + 2 := IntWalk.i64_in _ (by omega)
  have w3 : IntKind.i64.wrap (-bend) = -bend := IntWalk.i64_in _ (by omega)
  have w4 : IntKind.i64.wrap (-bend - 2) = -bend - 2 := IntWalk.i64_in _ (by omega)
  clear hs hg hm hdl
  refine lay_start ?_
  go_enter Tryz.func57, Tryz.ntmps57
  go_wp2_with fail
  refine (HD.out _ (HS.out.lay _)).mono ?_
  rintro e w' ⟨vd, dd, rfl, rfl, hd⟩
  obtain ⟨ga, ca, rfl, -⟩ := hd.form1 (by rw [rowF_len]; omega)
  rw [rowF_len] at hd ⊢
  rw [lay_bw] at hd ⊢
  have HDd := Lib.hid hd
  clear hd
  go_wp2_with fail
  go_loopw [8, 9] (fun v8 v9 wr' => ∃ (k : Nat) (d : Ext), k ≤ m - 2 ∧ v9 = .int .i64 (k : Int) ∧ wr' = lay w [.inr d, .inr dd] ∧
      Ow (lay w [.inr d, .inr dd]) (lay w [.inr dd]).heap.size v8 (badL wr l bend 1 (k + 1))) (fun _ v9 _ => m - 2 - (intOf v9).toNat)
  case atStart => exact ⟨0, noExt _, Nat.zero_le _, rfl, (bw_noExt _).symm, by rw [badL_self _ _ _ _ _ (Nat.le_refl _)]; exact Ow.nil _ _⟩
  case round =>
    obtain ⟨k, d, hk, rfl, rfl, hO⟩ := hrel
    by_cases hlt : k < m - 2
    · have k0 : (lay w [.inr d, .inr dd]).cell? ⟨ga, k, none⟩ = some (.int .i64 (sec wr l (k + 1))) := by
        have := (ow_on (A := [.inr d]) HDd.out).cell (i := k) (by rw [rowF_len]; omega)
        rw [rowF_nth _ _ _ hlt, dif2] at this
        exact this
      have sb := HB.out (k + 1) (by omega) (by omega)
      have hst := badL_step wr l bend 1 (k + 1) (by omega)
      have hll := badL_len (wr := wr) (l := l) (bend := bend) (lo := 1) (hi := k + 1)
      have x1 : (k : Int) < ((m - 2 : Nat) : Int) := by omega
      have w5 : IntKind.i64.wrap ((k : Int) + 1) = (k : Int) + 1 := IntWalk.i64_in _ (by omega)
      have hwf : (Lit.int .i64 ((k : Int) + 1)).wf = true := lit_bd (by omega)
      rw [show (((k + 1 : Nat)) : Int) = (k : Int) + 1 by omega] at hst
      have HO := Lib.hid hO
      clear hO
      generalize badL wr l bend 1 (k + 1) = R at *
      generalize sec wr l (k + 1) = X at *
      by_cases h1 : bend + 2 < X
      · have t1 : decide (bend + 2 < X) = true := decide_eq_true h1
        have HST : Hid (badL wr l bend 1 (k + 1 + 1) = R ++ [(k : Int) + 1]) := Lib.hid (by rw [hst, if_pos (by unfold badB; exact decide_eq_true (.inl h1))])
        clear hst
        go_wp2_with (at_builtin; refine push_int rfl _ _ rfl (lay w [.inr dd]) _ ((k : Int) + 1) 3 _ _ _ ?_ (ow_on (A := [_]) HO.out) ?_ rfl rfl (by omega) hwf ?_; exact lay_below (A := [_, _]); exact lay_get w _ 0 _ rfl; intro v' d' hv')
        go_roundw
        case rel => exact ⟨k + 1, d', by omega, by go_num, rfl, by rw [HST.out]; exact hv'⟩
        case measure => simp [intOf]; omega
      · have t1 : decide (bend + 2 < X) = false := decide_eq_false h1
        by_cases h2 : X < -bend - 2
        · have t2 : decide (X < -bend - 2) = true := decide_eq_true h2
          have HST : Hid (badL wr l bend 1 (k + 1 + 1) = R ++ [(k : Int) + 1]) := Lib.hid (by rw [hst, if_pos (by unfold badB; exact decide_eq_true (.inr h2))])
          clear hst
          go_wp2_with (at_builtin; refine push_int rfl _ _ rfl (lay w [.inr dd]) _ ((k : Int) + 1) 3 _ _ _ ?_ (ow_on (A := [_]) HO.out) ?_ rfl rfl (by omega) hwf ?_; exact lay_below (A := [_, _]); exact lay_get w _ 0 _ rfl; intro v' d' hv')
          go_roundw
          case rel => exact ⟨k + 1, d', by omega, by go_num, rfl, by rw [HST.out]; exact hv'⟩
          case measure => simp [intOf]; omega
        · have t2 : decide (X < -bend - 2) = false := decide_eq_false h2
          have HST : Hid (badL wr l bend 1 (k + 1 + 1) = R) := Lib.hid (by rw [hst, if_neg (by unfold badB; simp; omega), List.append_nil])
          clear hst
          go_wp2_with fail
          go_roundw
          case rel => exact ⟨k + 1, d, by omega, by go_num, rfl, by rw [HST.out]; exact HO.out⟩
          case measure => simp [intOf]; omega
    · obtain rfl : k = m - 2 := by omega
      rw [show m - 2 + 1 = m - 1 by omega] at hO
      have HO := Lib.hid hO
      clear hO
      go_wp2
      go_ret
      obtain ⟨z, hz⟩ := lay_ex w [.inr d, .inr dd]
      exact ⟨_, z, rfl, hz, by rw [← hz]; exact HO.out.le (lay_extends w [.inr dd]).size⟩
set_option maxHeartbeats 1000000 in
theorem re_Possible (v : Value) (l : List Int) (wr : Bool) (bend : Int) (w : World) (hs : Sl w v l) :
    Calls Tryz.prog 35 #[v, .int .i64 bend, .bool wr] w fun e w' => e = .returned (.tuple #[.bool (posB wr l bend), .int .i64 (posK wr l bend), .int .i64 (gvE wr l bend)]) ∧ ∃ d, w' = bw w d := by
  have HG := Lib.hid (fun W (h : Sl W v l) => re_Given v l wr W h)
  have HBe := Lib.hid (fun W => re_Bend bend W)
  have HS := Lib.hid hs
  unfold posB posK
  have hE : gvE wr l bend = if givE wr l = 0 then (if 0 ≤ bend ∧ bend ≤ 1000 then 0 else 2) else givE wr l := rfl
  by_cases h0 : gvE wr l bend = 0
  · obtain ⟨hg, b0, b1⟩ := gvE_0.1 h0
    have HCe := Lib.hid (fun W (h : Sl W v l) => re_Centres v l wr bend W h hg b0 b1)
    rw [giv_iff.2 hg] at HG
    rw [show decide (0 ≤ bend ∧ bend ≤ 1000) = true by simp; omega] at HBe
    rw [h0]
    obtain ⟨a, cap, rfl, -⟩ := hs
    clear h0 hg hE
    generalize badL wr l bend 1 (l.length - 1) = B at *
    generalize l.length = m at *
    by_cases hz : B = []
    · subst hz
      rw [if_pos rfl, if_pos rfl]
      refine lay_start ?_
      go_enter Tryz.func35, Tryz.ntmps35
      go_wp2_with (first | (go_at_call 55; refine (HG.out _ (HS.out.lay _)).mono ?_; rintro e w1 ⟨rfl, hw1⟩; subst hw1) | (go_at_call 56; refine (HBe.out _).mono ?_; rintro e w1 ⟨rfl, hw1⟩; subst hw1))
      refine (HCe.out _ (HS.out.lay [])).mono ?_
      rintro e w' ⟨vb, db, rfl, rfl, hvb⟩
      obtain ⟨ba, bc, rfl⟩ := hvb.form
      rw [lay_bw]
      clear hvb
      go_wp2
      exact bodyPost_ret (v := .tuple #[.bool true, .int .i64 (-1), .int .i64 0]) (by simp [results, Tryz.results35, go_sem]) rfl ⟨rfl, lay_ex _ _⟩
    · rw [if_pos rfl, if_neg hz, show B.isEmpty = false by simpa using hz, Bool.and_false]
      have hpos : 0 < B.length := List.length_pos_iff.2 hz
      have hd : decide ((0 : Int) < (B.length : Int)) = true := decide_eq_true (by omega)
      have hd2 : (0 : Int) < (B.length : Int) := by omega
      refine lay_start ?_
      go_enter Tryz.func35, Tryz.ntmps35
      go_wp2_with (first | (go_at_call 55; refine (HG.out _ (HS.out.lay _)).mono ?_; rintro e w1 ⟨rfl, hw1⟩; subst hw1) | (go_at_call 56; refine (HBe.out _).mono ?_; rintro e w1 ⟨rfl, hw1⟩; subst hw1))
      refine (HCe.out _ (HS.out.lay [])).mono ?_
      rintro e w' ⟨vb, db, rfl, rfl, hvb⟩
      obtain ⟨gb, bc, rfl, -⟩ := hvb.form1 hpos
      have k0 := hvb.cell (i := 0) hpos
      have k1 := fun d => (hvb.bw d).cell (i := 0) hpos
      simp only [lay_bw] at k1
      rw [lay_bw] at k0 ⊢
      clear hvb
      generalize B.length = q at *
      go_wp2_with fail
      refine region_bw (by kernel_rfl) (by kernel_rfl) ?_
      repeat (go_big_quiet_step ((first | fail)))
      refine wpQuiet_nil ?_
      rintro w' ⟨d, rfl⟩
      rw [lay_bw]
      go_wp2
      exact bodyPost_ret (v := .tuple #[.bool false, .int .i64 (nth B 0), .int .i64 0]) (by simp [results, Tryz.results35, go_sem]) rfl ⟨rfl, lay_ex _ _⟩
  · rw [if_neg h0, decide_eq_false h0, Bool.false_and]
    obtain ⟨a, cap, rfl, -⟩ := hs
    by_cases h1 : givE wr l = 0
    · have hE2 : gvE wr l bend = 2 := by
        rw [hE, if_pos h1]
        rw [hE, if_pos h1] at h0
        by_cases hb : 0 ≤ bend ∧ bend ≤ 1000
        · rw [if_pos hb] at h0; exact absurd rfl h0
        · rw [if_neg hb]
      have hb : ¬ (0 ≤ bend ∧ bend ≤ 1000) := fun h => h0 (by rw [hE, if_pos h1, if_pos h])
      rw [hE2]
      rw [h1] at HG
      rw [decide_eq_false hb] at HBe
      clear hE hE2 h0 h1
      generalize l.length = m at *
      refine lay_start ?_
      go_enter Tryz.func35, Tryz.ntmps35
      go_wp2_with (first | (go_at_call 55; refine (HG.out _ (HS.out.lay _)).mono ?_; rintro e w1 ⟨rfl, hw1⟩; subst hw1) | (go_at_call 56; refine (HBe.out _).mono ?_; rintro e w1 ⟨rfl, hw1⟩; subst hw1))
      exact bodyPost_ret (v := .tuple #[.bool false, .int .i64 0, .int .i64 2]) (by simp [results, Tryz.results35, go_sem]) rfl ⟨rfl, lay_ex _ []⟩
    · have hE2 : gvE wr l bend = givE wr l := by rw [hE, if_neg h1]
      rw [hE2]
      have t1 : (givE wr l == 0) = false := beq_eq_false_iff_ne.2 h1
      clear hE hE2 h0 h1
      generalize givE wr l = E at *
      generalize l.length = m at *
      refine lay_start ?_
      go_enter Tryz.func35, Tryz.ntmps35
      go_wp2_with (go_at_call 55; refine (HG.out _ (HS.out.lay _)).mono ?_; rintro e w1 ⟨rfl, hw1⟩; subst hw1)
      exact bodyPost_ret (v := .tuple #[.bool false, .int .i64 0, .int .i64 E]) (by simp [results, Tryz.results35, go_sem]) rfl ⟨rfl, lay_ex _ []⟩
end Go.Proofs.YtmmfkleplbofgaaGreatDoor

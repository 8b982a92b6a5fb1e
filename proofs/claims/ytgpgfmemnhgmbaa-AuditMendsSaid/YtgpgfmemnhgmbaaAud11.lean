/- audit: Differences. -/
import Derived.Test.YtgpgfmemnhgmbaaProg
import Derived.Test.YtgpgfmemnhgmbaaLay
import Derived.Test.YtgpgfmemnhgmbaaRegion
import Derived.Test.YtgpgfmemnhgmbaaMix
import Derived.WalkKit
import Derived.WalkSpells
import Derived.WalkLawsBesides
import Derived.Lib.Hide
import Derived.BigQuiet
import Derived.Deep.RegionWith
import Derived.Test.YtgpgfmemnhgmbaaPlain
import Derived.Test.YtgpgfmemnhgmbaaAngle
import Derived.Test.YtgpgfmemnhgmbaaAud10
namespace Go.Proofs.Ytgpgfmemnhgmbaa
open Go.RowKit

/-- The entries unwrapped, from the first on; their differences of an order. -/
def pre (wr : Bool) (l : List Int) : Nat → Int
  | 0 => nth l 0
  | k + 1 => pre wr l k + stp wr l k
def dif (wr : Bool) (l : List Int) : Nat → Nat → Int
  | 0, i => pre wr l i
  | k + 1, i => dif wr l k (i + 1) - dif wr l k i
def rowF (f : Nat → Int) (n : Nat) : List Int := (List.range n).map f
theorem rowF_len (f : Nat → Int) (n : Nat) : (rowF f n).length = n := by simp [rowF]
theorem rowF_nth (f : Nat → Int) (n i : Nat) (h : i < n) : nth (rowF f n) i = f i := by unfold nth rowF; simp [List.getD, h]
theorem rowF_succ (f : Nat → Int) (n : Nat) : rowF f (n + 1) = rowF f n ++ [f n] := by unfold rowF; simp [List.range_succ]
def difL (wr : Bool) (l : List Int) (order : Nat) : List Int := rowF (dif wr l order) (l.length - order)
theorem pre_bd {wr : Bool} {l : List Int} (h : Giv wr l) : ∀ k, k < l.length → -1048576 - 2097152 * (k : Int) ≤ pre wr l k ∧ pre wr l k ≤ 1048576 + 2097152 * (k : Int)
  | 0, hk => by have := perm_bd (h.perm 0 hk); simp only [pre]; omega
  | k + 1, hk => by
    have := pre_bd h k (by omega)
    have := stp_bd h (i := k) hk
    simp only [pre]; omega
theorem dif_bd {wr : Bool} {l : List Int} (h : Giv wr l) : ∀ k i, i + k < l.length → -(4000000000 * 2 ^ k) ≤ dif wr l k i ∧ dif wr l k i ≤ 4000000000 * 2 ^ k
  | 0, i, hi => by have := pre_bd h i (by omega); have := h.n1000; simp only [dif]; omega
  | k + 1, i, hi => by
    have h1 := dif_bd h k (i + 1) (by omega)
    have h2 := dif_bd h k i (by omega)
    have e : (2 : Int) ^ (k + 1) = 2 ^ k * 2 := Int.pow_succ ..
    simp only [dif]
    rw [e]
    generalize (2 : Int) ^ k = T at *
    omega
theorem dif_bd5 {wr : Bool} {l : List Int} (h : Giv wr l) {k i : Nat} (hk : k ≤ 6) (hi : i + k < l.length) : -300000000000 ≤ dif wr l k i ∧ dif wr l k i ≤ 300000000000 := by
  have h1 := dif_bd h k i hi
  have h2 : (2 : Int) ^ k ≤ 2 ^ 6 := by
    match k, hk with
    | 0, _ => decide
    | 1, _ => decide
    | 2, _ => decide
    | 3, _ => decide
    | 4, _ => decide
    | 5, _ => decide
    | 6, _ => decide
    | k + 7, h => omega
  have h3 : (2 : Int) ^ 6 = 64 := by decide
  rw [h3] at h2
  generalize (2 : Int) ^ k = T at *
  omega
theorem lit_bd {n : Int} (h : -300000000000 ≤ n ∧ n ≤ 300000000000) : (Lit.int .i64 n).wf = true := by
  simp [Lit.wf, IntKind.min, IntKind.max, IntKind.bits, IntKind.signed]; omega
/-- The row on the way from an order to the next one. -/
def rowM (f g : Nat → Int) (n i : Nat) : List Int := rowF (fun t => if t < i then g t else f t) n
theorem rowM_0 (f g : Nat → Int) (n : Nat) : rowM f g n 0 = rowF f n := by unfold rowM rowF; simp
theorem rowM_len (f g : Nat → Int) (n i : Nat) : (rowM f g n i).length = n := rowF_len _ _
theorem rowM_nth (f g : Nat → Int) (n i t : Nat) (h : t < n) : nth (rowM f g n i) t = if t < i then g t else f t := rowF_nth _ _ _ h
theorem rowM_set (f g : Nat → Int) (n i : Nat) (h : i < n) : (rowM f g n i).set i (g i) = rowM f g n (i + 1) := by
  apply List.ext_getElem
  · simp [rowM_len]
  · intro t h1 h2
    rw [rowM_len] at h2
    have e1 : nth ((rowM f g n i).set i (g i)) t = ((rowM f g n i).set i (g i))[t] := by unfold nth; simp [List.getD, rowM_len, h2]
    have e2 : nth (rowM f g n (i + 1)) t = (rowM f g n (i + 1))[t]'(by rw [rowM_len]; exact h2) := by unfold nth; simp [List.getD, rowM_len, h2]
    rw [← e1, ← e2, nth_set _ _ _ (by rw [rowM_len]; exact h), rowM_nth _ _ _ _ _ h2, rowM_nth _ _ _ _ _ h2]
    by_cases e : t = i
    · subst e; rw [if_pos rfl, if_pos (Nat.lt_succ_self _)]
    · rw [if_neg e]
      by_cases h3 : t < i
      · rw [if_pos h3, if_pos (by omega)]
      · rw [if_neg h3, if_neg (by omega)]
theorem rowM_cut (f g : Nat → Int) (n : Nat) : rowM f g (n + 1) n = rowF g n ++ [f n] := by
  unfold rowM
  rw [rowF_succ]
  congr 1
  · unfold rowF
    apply List.map_congr_left
    intro t ht
    rw [if_pos (List.mem_range.1 ht)]
  · rw [if_neg (Nat.lt_irrefl _)]
theorem ow_lit {w : World} {L : List (Obj ⊕ Ext)} {x : Int} (hx : (Lit.int .i64 x).wf = true) : Ow (lay w (.inl (.cells #[.int .i64 x] 3 (0, 0)) :: L)) (lay w L).heap.size (.slice (some ⟨posn w (shp L), 0, none⟩) 1 1) [x] := by
  rw [← lay_size w L]
  refine ⟨World.ownsRow_lit (lay w L) #[.int .i64 x] 1 (Nat.le_refl _) (by decide) rfl, fun i hi => ?_⟩
  obtain rfl : i = 0 := by have : i < 1 := hi; omega
  exact hx
set_option maxHeartbeats 1000000 in
set_option maxRecDepth 100000 in
theorem aud_Differences (v : Value) (l : List Int) (wr : Bool) (order : Nat) (w : World) (hs : Sl w v l) (hg : Giv wr l) (ho : order ≤ 5) :
    Calls Try.prog 12 #[v, .int .i64 (order : Int), .bool wr] w (RwE w (difL wr l order) 0) := by
  have hn := hg.n1000
  have hn3 := hg.n3
  have HC := Lib.hid (fun W (h : Sl W v l) => aud_check v l wr W h)
  rw [giv_iff.2 hg] at HC
  have HSt := Lib.hid (fun W (k : Nat) (hk : k + 1 < l.length) (h : Sl W v l) => aud_step v l wr k W h hg hk)
  have HB0 := Lib.hid (fun k hk => pre_bd hg k hk)
  have HBs := Lib.hid (fun (k : Nat) (hk : k + 1 < l.length) => stp_bd hg hk)
  have HBd := Lib.hid (fun k i (hk : k ≤ 6) (hi : i + k < l.length) => dif_bd5 hg hk hi)
  have HS := Lib.hid hs
  have hp0 := perm_bd (hg.perm 0 (by omega))
  obtain ⟨b, o, cap, rfl, hc, -, hb, hr⟩ := hs.open (by omega)
  have hr0 := hr 0 (by omega)
  rw [Nat.add_zero] at hr0
  obtain ⟨m, hm⟩ : ∃ m, l.length = m := ⟨_, rfl⟩
  have hdl : difL wr l order = rowF (dif wr l order) (m - order) := by rw [← hm]; rfl
  rw [hdl]
  rw [hm] at HC HSt HB0 HBs HBd HS hn hn3 hc ⊢
  have y1 : (0 : Int) < (m : Int) := by omega
  have wm : IntKind.i64.wrap ((m : Int) - 1) = (m : Int) - 1 := IntWalk.i64_in _ (by omega)
  have o1 : decide ((order : Int) < 0) = false := decide_eq_false (by omega)
  have o2 : decide ((5 : Int) < (order : Int)) = false := decide_eq_false (by omega)
  have o3 : (0 : Int) ≤ (order : Int) := by omega
  have o4 : (order : Int) ≤ 5 := by omega
  clear hr hs hg hm hdl
  refine lay_start ?_
  go_enter Try.func12, Try.ntmps12
  go_wp2_with (go_at_call 25; refine (HC.out _ (HS.out.lay _)).mono ?_; rintro e w' ⟨rfl, d0, rfl⟩)
  go_loopw [10, 34] (fun v10 v34 wr' => ∃ (j g c : Nat) (dd : Ext), j + 1 ≤ m ∧ v10 = .slice (some ⟨g, 0, none⟩) (j + 1) c ∧ v34 = .int .i64 (j : Int) ∧ wr' = lay w [.inr dd, .inr d0, .inl (.cells #[.slice (some ⟨b, o, none⟩) m cap, .bool wr] 57 (0, 0))] ∧
      Ow (lay w [.inr dd, .inr d0, .inl (.cells #[.slice (some ⟨b, o, none⟩) m cap, .bool wr] 57 (0, 0))]) (lay w [.inr d0, .inl (.cells #[.slice (some ⟨b, o, none⟩) m cap, .bool wr] 57 (0, 0))]).heap.size (.slice (some ⟨g, 0, none⟩) (j + 1) c) (rowF (pre wr l) (j + 1))) (fun _ v34 _ => m - 1 - (intOf v34).toNat)
  case atStart =>
    have h := ow_lit (w := w) (L := [.inr d0, .inl (.cells #[.slice (some ⟨b, o, none⟩) m cap, .bool wr] 57 (0, 0))]) (x := nth l 0) (lit_bd (by omega))
    exact ⟨0, posn w [d0.n, 1], 1, _, by omega, rfl, rfl, Classical.choose_spec (lay_fold w [_] [.inr d0, .inl (.cells #[.slice (some ⟨b, o, none⟩) m cap, .bool wr] 57 (0, 0))]), by rw [← Classical.choose_spec (lay_fold w [.inl (.cells #[.int .i64 (nth l 0)] 3 (0, 0))] [.inr d0, .inl (.cells #[.slice (some ⟨b, o, none⟩) m cap, .bool wr] 57 (0, 0))])]; exact h⟩
  case round =>
    obtain ⟨j, g, c, dd, hj, rfl, rfl, rfl, hO⟩ := hrel
    by_cases hlt : j + 1 < m
    · have hcl := fun d' => (ow_on (A := [.inr d']) hO).cell (i := j) (by rw [rowF_len]; omega)
      have hc1 : ∀ d', (lay w [.inr d', .inr dd, .inr d0, .inl (.cells #[.slice (some ⟨b, o, none⟩) m cap, .bool wr] 57 (0, 0))]).cell? ⟨g, j, none⟩ = some (.int .i64 (pre wr l j)) := fun d' => by have := hcl d'; rw [rowF_nth _ _ _ (by omega)] at this; exact this
      have b1 := HB0.out j (by omega)
      have b2 := HBs.out j hlt
      have b3 := HB0.out (j + 1) hlt
      have hst : rowF (pre wr l) (j + 1 + 1) = rowF (pre wr l) (j + 1) ++ [pre wr l j + stp wr l j] := rowF_succ _ _
      have hwf : (Lit.int .i64 (pre wr l j + stp wr l j)).wf = true := lit_bd (by omega)
      have H1 := Lib.hid (fun W h => HSt.out W j hlt h)
      have hlen : (rowF (pre wr l) (j + 1)).length ≤ 1000000000 := by rw [rowF_len]; omega
      have x0 : (0 : Int) ≤ (j : Int) := by omega
      have x1 : (j : Int) < (m : Int) - 1 := by omega
      have x2 : (j : Int) < ((j + 1 : Nat) : Int) := by omega
      have x3 : (j : Int) < (j : Int) + 1 := by omega
      have w1 : IntKind.i64.wrap (pre wr l j + stp wr l j) = pre wr l j + stp wr l j := IntWalk.i64_in _ (by omega)
      have hRl : (rowF (pre wr l) (j + 1)).length = j + 1 := rowF_len _ _
      have HST := Lib.hid hst
      have HO := Lib.hid hO
      have HRl := Lib.hid hRl
      clear hst hO hcl hRl
      generalize rowF (pre wr l) (j + 1) = R at *
      generalize pre wr l j = P at *
      generalize stp wr l j = S at *
      go_wp2_with fail
      refine region_mixT 10 [0, 0, 0, 0, 0, 0, 0, 0, 0, 1] (by kernel_rfl) (by kernel_rfl) (by kernel_rfl) (by kernel_rfl) (by simp) (by kernel_rfl) ?_
      simp only [List.take_succ_cons, List.take_zero, List.drop_succ_cons, List.drop_zero]
      repeat (first | (refine wpM_quiet (fun K hK => ?_); go_simp; first | (refine hK _ ?_; clear hK K) | (apply Exists.intro; refine ⟨fun _ => ?_, hK _ ?_⟩; (first | (go_at_call 26; exact bq (H1.out _ (HS.out.lay _)) (fun d => ⟨d, rfl⟩))); clear hK K)) | (refine wpM_special (fun K hK d => ?_); go_simp; refine hK _ _ (by first | exact lay_in w [_] _ | exact lay_in w [_, _] _ | exact lay_in w [_, _, _] _ | exact lay_in w [_, _, _, _] _ | exact lay_in w [_, _, _, _, _] _ | exact lay_in w [_, _, _, _, _, _] _) ?_; clear hK K))
      refine wpM_nil ?_
      intro d1
      rw [lay_bw]
      refine push_int rfl _ _ rfl (lay w [.inr d0, .inl (.cells #[.slice (some ⟨b, o, none⟩) m cap, .bool wr] 57 (0, 0))]) _ (P + S) 3 _ _ _ ?_ (ow_on (A := [_, _, _]) HO.out) ?_ rfl rfl hlen hwf ?_
      · exact lay_below (A := [_, _, _, _])
      · exact lay_get w _ 1 _ rfl
      intro v' d' hv'
      have hl2 : (R ++ [P + S]).length = j + 1 + 1 := by rw [List.length_append, HRl.out]; rfl
      obtain ⟨g', c', rfl, -⟩ := hv'.form1 (by rw [hl2]; omega)
      rw [hl2] at hv' ⊢
      have HV := Lib.hid hv'
      clear hv' hl2
      go_wp2_with fail
      go_roundw
      case rel => exact ⟨j + 1, g', c', d', hlt, rfl, by go_num, rfl, by rw [HST.out]; exact HV.out⟩
      case measure => simp [intOf]; omega
    · obtain rfl : m = j + 1 := by omega
      have x1 : ((j + 1 : Nat) : Int) - 1 ≤ (j : Int) := by omega
      have HO := Lib.hid hO
      clear hO
      have hg0 := (HO.out.1.lt g rfl).1
      have hpd : rowF (pre wr l) (j + 1) = rowF (dif wr l 0) (j + 1 - 0) := rfl
      rw [hpd] at HO
      clear HSt HBs HB0 hpd hr0 hp0
      go_wp2_with fail
      go_loopw [10, 50] (fun v10 v50 wr' => ∃ (k : Nat) (d1 : Ext), k ≤ order ∧ v10 = .slice (some ⟨g, 0, none⟩) (j + 1 - k) c ∧ v50 = .int .i64 (k : Int) ∧ wr' = lay w [.inr d1, .inr d0, .inl (.cells #[.slice (some ⟨b, o, none⟩) (j + 1) cap, .bool wr] 57 (0, 0))] ∧
        Ow (lay w [.inr d1, .inr d0, .inl (.cells #[.slice (some ⟨b, o, none⟩) (j + 1) cap, .bool wr] 57 (0, 0))]) (lay w [.inr d0, .inl (.cells #[.slice (some ⟨b, o, none⟩) (j + 1) cap, .bool wr] 57 (0, 0))]).heap.size (.slice (some ⟨g, 0, none⟩) (j + 1 - k) c) (rowF (dif wr l k) (j + 1 - k))) (fun _ v50 _ => order - (intOf v50).toNat)
      case atStart => exact ⟨0, dd, Nat.zero_le _, rfl, rfl, rfl, HO.out⟩
      case round =>
        obtain ⟨k, d1, hk, rfl, rfl, rfl, hO1⟩ := hrel
        by_cases hlt2 : k < order
        · obtain ⟨q, hq⟩ : ∃ q, j + 1 - k = q := ⟨_, rfl⟩
          have hD := fun i (hi : i + k < j + 1) => HBd.out k i (by omega) hi
          have hD1 := fun i (hi : i + (k + 1) < j + 1) => HBd.out (k + 1) i (by omega) hi
          rw [hq] at hO1 ⊢
          have hqk : q - 1 = j + 1 - (k + 1) := by omega
          have hqn : q ≤ 1000 := by omega
          have hmx : mx 0 ((q : Int) - 1) = ((q - 1 : Nat) : Int) := by unfold mx; split <;> omega
          have wq : IntKind.i64.wrap ((q : Int) - 1) = (q : Int) - 1 := IntWalk.i64_in _ (by omega)
          rw [← rowM_0 _ (dif wr l (k + 1))] at hO1
          have HO1 := Lib.hid hO1
          have HD := Lib.hid hD
          have HD1 := Lib.hid hD1
          have x5 : (k : Int) < (order : Int) := by omega
          clear hO1 hD hD1 HBd
          go_wp2_with fail
          go_loopw [56] (fun v56 wr' => ∃ (i : Nat) (d2 : Ext), i ≤ q - 1 ∧ v56 = .int .i64 (i : Int) ∧ wr' = lay w [.inr d2, .inr d0, .inl (.cells #[.slice (some ⟨b, o, none⟩) (j + 1) cap, .bool wr] 57 (0, 0))] ∧
            Ow (lay w [.inr d2, .inr d0, .inl (.cells #[.slice (some ⟨b, o, none⟩) (j + 1) cap, .bool wr] 57 (0, 0))]) (lay w [.inr d0, .inl (.cells #[.slice (some ⟨b, o, none⟩) (j + 1) cap, .bool wr] 57 (0, 0))]).heap.size (.slice (some ⟨g, 0, none⟩) q c) (rowM (dif wr l k) (dif wr l (k + 1)) q i)) (fun v56 _ => q - 1 - (intOf v56).toNat)
          case atStart => exact ⟨0, d1, Nat.zero_le _, rfl, rfl, HO1.out⟩
          case round =>
            obtain ⟨i, d2, hi, rfl, rfl, hO2⟩ := hrel
            by_cases hlt3 : i < q - 1
            · have e1 := fun d' => (ow_on (A := [.inr d']) hO2).cell (i := i + 1) (by rw [rowM_len]; omega)
              have e0 := fun d' => (ow_on (A := [.inr d']) hO2).cell (i := i) (by rw [rowM_len]; omega)
              have c1 : ∀ d', (lay w [.inr d', .inr d2, .inr d0, .inl (.cells #[.slice (some ⟨b, o, none⟩) (j + 1) cap, .bool wr] 57 (0, 0))]).cell? ⟨g, i + 1, none⟩ = some (.int .i64 (dif wr l k (i + 1))) := fun d' => by have := e1 d'; rw [rowM_nth _ _ _ _ _ (by omega), if_neg (by omega)] at this; exact this
              have c0 : ∀ d', (lay w [.inr d', .inr d2, .inr d0, .inl (.cells #[.slice (some ⟨b, o, none⟩) (j + 1) cap, .bool wr] 57 (0, 0))]).cell? ⟨g, i, none⟩ = some (.int .i64 (dif wr l k i)) := fun d' => by have := e0 d'; rw [rowM_nth _ _ _ _ _ (by omega), if_neg (by omega)] at this; exact this
              have b1 := HD1.out i (by omega)
              have hde : dif wr l (k + 1) i = dif wr l k (i + 1) - dif wr l k i := rfl
              rw [hde] at b1
              have w1 : IntKind.i64.wrap (dif wr l k (i + 1) - dif wr l k i) = dif wr l k (i + 1) - dif wr l k i := IntWalk.i64_in _ (by omega)
              have hwf : (Lit.int .i64 (dif wr l k (i + 1) - dif wr l k i)).wf = true := lit_bd b1
              have hset := rowM_set (dif wr l k) (dif wr l (k + 1)) q i (by omega)
              rw [hde] at hset
              have HO2 := Lib.hid hO2
              have HSet := Lib.hid hset
              have z0 : (0 : Int) ≤ (i : Int) := by omega
              have z1 : (i : Int) < (q : Int) := by omega
              have z2 : (0 : Int) ≤ (i : Int) + 1 := by omega
              have z3 : (i : Int) + 1 < (q : Int) := by omega
              have z4 : ((i : Int) + 1).toNat = i + 1 := by omega
              have z5 : (i : Int) < ((q - 1 : Nat) : Int) := by omega
              have w2 : IntKind.i64.wrap ((i : Int) + 1) = (i : Int) + 1 := IntWalk.i64_in _ (by omega)
              clear e0 e1 hO2 hset hde
              generalize dif wr l k (i + 1) = A1 at *
              generalize dif wr l k i = A0 at *
              go_wp2_with fail
              refine region_bw_tail 13 (by kernel_rfl) (by kernel_rfl) ?_
              simp only [List.take_succ_cons, List.take_zero, List.drop_succ_cons, List.drop_zero]
              repeat (go_big_quiet_step ((first | fail)))
              refine wpQuiet_nil ?_
              rintro w' ⟨d, rfl⟩
              rw [lay_bw]
              have h3 := ow_on (A := [.inr d]) HO2.out
              have kf : (lay w [.inr d, .inr d2, .inr d0, .inl (.cells #[.slice (some ⟨b, o, none⟩) (j + 1) cap, .bool wr] 57 (0, 0))]).frozen? ⟨g, i, none⟩ = false := h3.froz i
              have hs3 := ow_store h3 i (A1 - A0) hwf
              rw [HSet.out] at hs3
              obtain ⟨d3, hd3⟩ := lay_fold w [.inr d, .inr d2] [.inr d0, .inl (.cells #[.slice (some ⟨b, o, none⟩) (j + 1) cap, .bool wr] 57 (0, 0))]
              obtain ⟨d4, hd4⟩ := bw_store (w := lay w [.inr d0, .inl (.cells #[.slice (some ⟨b, o, none⟩) (j + 1) cap, .bool wr] 57 (0, 0))]) (d := d3) (i := i) (v := .int .i64 (A1 - A0)) hg0
              have s3 : (lay w [.inr d, .inr d2, .inr d0, .inl (.cells #[.slice (some ⟨b, o, none⟩) (j + 1) cap, .bool wr] 57 (0, 0))]).setCell ⟨g, i, none⟩ (.int .i64 (A1 - A0)) = lay w [.inr d4, .inr d0, .inl (.cells #[.slice (some ⟨b, o, none⟩) (j + 1) cap, .bool wr] 57 (0, 0))] := by
                have h5 : lay w [.inr d, .inr d2, .inr d0, .inl (.cells #[.slice (some ⟨b, o, none⟩) (j + 1) cap, .bool wr] 57 (0, 0))] = lay w (.inr d3 :: [.inr d0, .inl (.cells #[.slice (some ⟨b, o, none⟩) (j + 1) cap, .bool wr] 57 (0, 0))]) := hd3
                rw [h5]; exact hd4
              have hs4 : Ow (lay w [.inr d4, .inr d0, .inl (.cells #[.slice (some ⟨b, o, none⟩) (j + 1) cap, .bool wr] 57 (0, 0))]) (lay w [.inr d0, .inl (.cells #[.slice (some ⟨b, o, none⟩) (j + 1) cap, .bool wr] 57 (0, 0))]).heap.size (.slice (some ⟨g, 0, none⟩) q c) (rowM (dif wr l k) (dif wr l (k + 1)) q (i + 1)) := s3 ▸ hs3
              have HS4 := Lib.hid hs4
              clear h3 hs3 hs4 hd3 hd4
              go_wp2_with fail
              go_roundw
              case rel => exact ⟨i + 1, d4, by omega, by go_num, rfl, HS4.out⟩
              case measure => simp [intOf]; omega
            · obtain rfl : i = q - 1 := by omega
              have hO3 : Ow (lay w [.inr d2, .inr d0, .inl (.cells #[.slice (some ⟨b, o, none⟩) (j + 1) cap, .bool wr] 57 (0, 0))]) (lay w [.inr d0, .inl (.cells #[.slice (some ⟨b, o, none⟩) (j + 1) cap, .bool wr] 57 (0, 0))]).heap.size (.slice (some ⟨g, 0, none⟩) (q - 1) c) (rowF (dif wr l (k + 1)) (q - 1)) := by
                by_cases hq0 : q = 0
                · subst hq0; exact hO2
                · obtain ⟨p, rfl⟩ : ∃ p, q = p + 1 := ⟨q - 1, by omega⟩
                  rw [Nat.add_sub_cancel, rowM_cut] at hO2
                  have := ow_take hO2
                  rw [rowF_len] at this
                  exact this
              have hcap := hO2.sl
              have hcq : q ≤ c := by
                obtain ⟨_, cap', he, hcc, -⟩ := hcap
                simp only [Value.slice.injEq] at he
                have := hcc.1
                rw [rowM_len] at this; omega
              have HO3 := Lib.hid hO3
              have z0 : (0 : Int) ≤ ((q - 1 : Nat) : Int) := by omega
              have z1 : ((q - 1 : Nat) : Int) ≤ (c : Int) := by omega
              have z2 : ((q - 1 : Nat) : Int).toNat = q - 1 := by omega
              clear hO2 hO3 hcap
              rw [hqk] at *
              go_wp2_with fail
              go_roundw
              case rel => exact ⟨k + 1, d2, hlt2, by rw [show j + 1 - (k + 1) = j - k by omega], by go_num, rfl, HO3.out⟩
              case measure => simp [intOf]; omega
        · obtain rfl : k = order := by omega
          have HO1 := Lib.hid hO1
          clear hO1
          go_wp2
          obtain ⟨z, hz⟩ := lay_ex w [.inr d1, .inr d0, .inl (.cells #[.slice (some ⟨b, o, none⟩) (j + 1) cap, .bool wr] 57 (0, 0))]
          have h := HO1.out
          rw [hz] at h
          exact bodyPost_ret (v := .tuple #[.slice (some ⟨g, 0, none⟩) (j + 1 - k) c, .int .i64 0]) (by simp [results, Try.results12, go_sem]) rfl ⟨_, z, rfl, hz, h.le (lay_extends w _).size⟩
end Go.Proofs.Ytgpgfmemnhgmbaa

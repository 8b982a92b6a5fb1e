/- AuditMends: the repairs. -/
import Derived.Test.YtgpgfmemnhgmbaaProg
import Derived.Test.YtgpgfmemnhgmbaaLay
import Derived.Test.YtgpgfmemnhgmbaaRegion
import Derived.Test.YtgpgfmemnhgmbaaMix
import Derived.WalkKit
import Derived.WalkSpells
import Derived.WalkLawsBesides
import Derived.Lib.Hide
import Derived.BigQuiet
import Derived.Test.YtgpgfmemnhgmbaaPlain
import Derived.Test.YtgpgfmemnhgmbaaAngle
import Derived.Test.YtgpgfmemnhgmbaaLm2
namespace Go.Proofs.Ytgpgfmemnhgmbaa
open Go.RowKit

theorem ow_lits {w : World} {L : List (Obj ⊕ Ext)} {cs : Array Value} (l : List Int) (hc : cs.toList = l.map (Value.int .i64)) (hl : l.length ≤ 1000) (hw : ∀ i, i < l.length → (Lit.int .i64 (nth l i)).wf = true) :
    Ow (lay w (.inl (.cells cs 3 (0, 0)) :: L)) (lay w L).heap.size (.slice (some ⟨posn w (shp L), 0, none⟩) l.length l.length) l := by
  rw [← lay_size w L]
  refine ⟨?_, hw⟩
  have := World.ownsRow_lit (base := (lay w L).heap.size) (e := 3) (size := 1) (lay w L) cs l.length (Nat.le_refl _) (by unfold maxLen; omega) (by rw [← Array.length_toList, hc]; simp)
  rw [hc] at this
  exact this
theorem gvE_1 {wr : Bool} {l : List Int} {k : Nat} {X B : Int} (hg : Giv wr l) (hk : k < l.length) (hp : ¬ permB wr X = true) : gvE wr (l.set k X) B = 1 := by
  have hn : (l.set k X).length = l.length := List.length_set
  have h1 : givE wr (l.set k X) = 1 := by
    unfold givE
    rw [if_neg (by rw [hn]; have := hg.n3; have := hg.n1000; omega), if_neg]
    intro h
    exact hp (List.all_eq_true.1 h X (List.mem_set hk X))
  unfold gvE
  rw [h1, if_neg (by decide)]
theorem nth3 {V : Int} {t : Nat} (h : t < 3) : nth [V - 1, V, V + 1] t = V - 1 + t := by
  rcases (show t = 0 ∨ t = 1 ∨ t = 2 by omega) with rfl | rfl | rfl
  · show V - 1 = _; omega
  · show V = _; omega
  · show V + 1 = _; omega
theorem wf3 {V : Int} (h0 : -1048576 ≤ V) (h1 : V ≤ 1048576) : ∀ i, i < [V - 1, V, V + 1].length → (Lit.int .i64 (nth [V - 1, V, V + 1] i)).wf = true := fun i hi => by
  rw [nth3 hi]; have hi' : i < 3 := hi; exact lit_bd (by omega)
theorem asc_nth {l : List Int} (h : Asc l) {i j : Nat} (hij : i < j) (hj : j < l.length) : nth l i < nth l j := by
  have hi : i < l.length := Nat.lt_trans hij hj
  have e1 : nth l i = l[i] := by unfold nth; simp [List.getD, hi]
  have e2 : nth l j = l[j] := by unfold nth; simp [List.getD, hj]
  rw [e1, e2]
  exact List.pairwise_iff_getElem.1 h i j hi hj hij
theorem arr3 {V : Int} {t : Nat} (h : t < 3) : (#[.int .i64 (V - 1), .int .i64 V, .int .i64 (V + 1)] : Array Value)[t]? = some (.int .i64 (V - 1 + t)) := by
  rcases (show t = 0 ∨ t = 1 ∨ t = 2 by omega) with rfl | rfl | rfl
  · show some (Value.int .i64 (V - 1)) = _; rw [show V - 1 + ((0 : Nat) : Int) = V - 1 by omega]
  · show some (Value.int .i64 V) = _; rw [show V - 1 + ((1 : Nat) : Int) = V by omega]
  · show some (Value.int .i64 (V + 1)) = _; rw [show V - 1 + ((2 : Nat) : Int) = V + 1 by omega]
set_option maxHeartbeats 4000000 in
set_option maxRecDepth 100000 in
theorem law15_Mends_ok (v : Value) (l : List Int) {w : World} (hs : Sl w v l) (bend : Int) (bb : 0 ≤ bend ∧ bend ≤ 65535) (more : Int) (mb : 0 ≤ more ∧ more ≤ 65535) (n : Nat) (hn255 : n ≤ 255) (wr : Bool)
    (hn : l.length ≤ 40) (hg : Giv wr l) (hE : rprE wr l (bend % 1001) ((n % l.length : Nat) : Int) = 0) :
    Calls Try.prog 7 #[v, .int .u16 bend, .int .u16 more, .int .u8 (n : Int), .bool wr] w fun e w' => e = .returned (.bool true) ∧ ∃ d, w' = bw w d := by
  have hn3 := hg.n3
  have HS := Lib.hid hs
  have HG := Lib.hid (fun W (h : Sl W v l) => re_Given v l wr W h)
  rw [giv_iff.2 hg] at HG
  obtain ⟨b0, b1⟩ := bb
  obtain ⟨m0, m1⟩ := mb
  obtain ⟨B, hB⟩ : ∃ B, bend % 1001 = B := ⟨_, rfl⟩
  have tB : bend.tmod 1001 = B := by rw [Int.tmod_eq_emod_of_nonneg b0]; exact hB
  have B0 : 0 ≤ B := by omega
  have B1 : B ≤ 1000 := by omega
  rw [hB] at hE
  obtain ⟨D, hD⟩ : ∃ D, more % 50 = D := ⟨_, rfl⟩
  have tD : more.tmod 50 = D := by rw [Int.tmod_eq_emod_of_nonneg m0]; exact hD
  have D0 : 0 ≤ D := by omega
  have D1 : D < 50 := by omega
  clear hB hD
  obtain ⟨C, hC⟩ : ∃ C, mn 1000 (B + D) = C := ⟨_, rfl⟩
  have hCb : B ≤ C ∧ C ≤ 1000 := by rw [← hC]; unfold mn; split <;> omega
  obtain ⟨C0, C1⟩ := hCb
  obtain ⟨k, hk⟩ : ∃ k, n % l.length = k := ⟨_, rfl⟩
  have klt : k < l.length := by rw [← hk]; exact Nat.mod_lt _ (by omega)
  have tA : (n : Int).tmod (l.length : Int) = (k : Int) := by
    rw [Int.tmod_eq_emod_of_nonneg (by omega), ← hk]
    exact (Int.natCast_emod n l.length).symm
  rw [hk] at hE
  have HP := Lib.hid (fun W (h : Sl W v l) => aud_Possible v l wr B W h)
  have HQ := Lib.hid (fun W (h : Sl W v l) => aud_Possible v l wr C W h)
  have HR := Lib.hid (fun W (h : Sl W v l) => aud_Repair v l wr B (k : Int) W h)
  have e0 : gvE wr l B = 0 := gvE_0.2 ⟨hg, B0, B1⟩
  have e1 : gvE wr l C = 0 := gvE_0.2 ⟨hg, by omega, C1⟩
  have hR : rprL wr l B (k : Int) = repL wr l B k := by unfold rprL; rw [if_pos hE, Int.toNat_natCast]
  have hq : 0 < (repL wr l B k).length ∧ (repL wr l B k).length ≤ 1000 := by
    have h2 := rprE_at hg B0 B1 klt
    rw [hE] at h2
    split at h2
    · cases h2
    · rename_i h3
      split at h2
      · cases h2
      · exact ⟨List.length_pos_iff.2 h3, by omega⟩
  rw [e0] at HP
  rw [e1] at HQ
  rw [hR, hE] at HR
  have hm : posB wr l B = true → posB wr l C = true := pos_more hg B0 C0 C1
  obtain ⟨N, hN⟩ : ∃ N, nth l k = N := ⟨_, rfl⟩
  have hx : posB wr l B = true → (repL wr l B k).contains N = true := fun h => List.contains_iff_mem.2 (hN ▸ (rep_self hg B0 klt).2 ((posB_iff e0).1 h))
  have HAs := Lib.hid (asc_rep wr l B k)
  have HMe := Lib.hid (fun x (hx : permB wr x = true) => mem_rep (x := x) hg.n3 B0 klt hx)
  have HPe := Lib.hid (fun x (hx : x ∈ repL wr l B k) => perm_rep hx)
  have HPo := Lib.hid (fun x => aud_Possible (l := l.set k x) (wr := wr) (bend := B))
  have HCl := Lib.hid (fun W (h : Sl W v l) => sl_Clone v l W h (by omega) (by omega))
  have HG1 := Lib.hid hg
  obtain ⟨b, o, cap, hvv, -, -, hb, hr⟩ := hs.open (by omega)
  have hrk := hr k klt
  rw [hN] at hrk
  clear e0 e1 hR
  generalize posK wr l B = K1 at *
  generalize posK wr l C = K2 at *
  generalize posB wr l B = F1 at *
  generalize posB wr l C = F2 at *
  obtain ⟨R, hRR⟩ : ∃ R, repL wr l B k = R := ⟨_, rfl⟩
  rw [hRR] at hq hx HAs HMe HPe HR
  subst hvv
  obtain ⟨m, hm2⟩ : ∃ m, l.length = m := ⟨_, rfl⟩
  have HM := Lib.hid hm2
  rw [hm2] at HS HG HP HQ HR HCl klt tA hn hn3 ⊢
  obtain ⟨q, hqq⟩ : ∃ q, R.length = q := ⟨_, rfl⟩
  have HQ2 := Lib.hid hqq
  rw [hqq] at hq
  obtain ⟨q0, q1⟩ := hq
  have HCo := Lib.hid (fun W u x (h : Sl W u R) => sl_Contains u R x W h)
  clear hg hk hE hr hm2 hqq hs hRR
  have m1 : (m : Int) ≠ 0 := by omega
  have m2 : m ≠ 0 := by omega
  have y0 : (0 : Int) ≤ (k : Int) := by omega
  have y1 : (k : Int) < (m : Int) := by omega
  have t1 : decide ((40 : Int) < (m : Int)) = false := decide_eq_false (by omega)
  cases F1
  · clear hx hm
    refine lay_start ?_
    go_enter Try.func7, Try.ntmps7
    go_wp2_with (first | (go_at_call 10; with_reducible refine (law15_awake _).mono ?_; rintro e w' ⟨rfl, dA, rfl⟩) | (go_at_call 13; with_reducible refine (HG.out _ (HS.out.lay _)).mono ?_; rintro e w' ⟨rfl, rfl⟩) | (go_at_call 16; first | (with_reducible refine (HP.out _ (HS.out.lay _)).mono ?_; rintro e w' ⟨rfl, dB, rfl⟩) | (with_reducible refine (HQ.out _ (HS.out.lay _)).mono ?_; rintro e w' ⟨rfl, dC, rfl⟩)))
    refine (HR.out _ (HS.out.lay _)).mono ?_
    rintro e w' ⟨v2, d2, rfl, rfl, hv⟩
    obtain ⟨g2, c2, rfl, -⟩ := hv.form1 (by rw [HQ2.out]; exact q0)
    rw [HQ2.out, lay_bw] at hv
    rw [HQ2.out, lay_bw]
    have HV := Lib.hid hv
    clear hv
    have z1 : ((q : Int) == 0) = false := beq_eq_false_iff_ne.2 (by omega)
    have z2 : decide ((1000 : Int) < (q : Int)) = false := decide_eq_false (by omega)
    go_wp2_with fail
    go_loopw [131] (fun vi wr' => ∃ (j : Nat) (dd : Ext), j ≤ q ∧ vi = .int .i64 (j : Int) ∧ wr' = lay w [.inr dd, .inr d2, .inr dC, .inr dB, .inr dA]) (fun vi _ => q - (intOf vi).toNat)
    case atStart => exact ⟨0, noExt _, Nat.zero_le _, rfl, (bw_noExt _).symm⟩
    case round =>
      obtain ⟨j, dd, hj, rfl, rfl⟩ := hrel
      by_cases hlt : j < q
      · have x1 : (j : Int) < (q : Int) := by omega
        have hmj : nth R j ∈ R := nth_mem (by rw [HQ2.out]; exact hlt)
        have hpm := HPe.out _ hmj
        obtain ⟨V, hV⟩ : ∃ V, nth R j = V := ⟨_, rfl⟩
        have kV : (lay w [.inr dd, .inr d2, .inr dC, .inr dB, .inr dA]).cell? ⟨g2, j, none⟩ = some (.int .i64 V) := by
          rw [← hV]; exact (ow_on (A := [.inr dd]) HV.out).cell (i := j) (by rw [HQ2.out]; exact hlt)
        have kP : 0 < j → nth R (j - 1) < V ∧ (lay w [.inr dd, .inr d2, .inr dC, .inr dB, .inr dA]).cell? ⟨g2, j - 1, none⟩ = some (.int .i64 (nth R (j - 1))) := fun h0 => by
          refine ⟨?_, (ow_on (A := [.inr dd]) HV.out).cell (i := j - 1) (by rw [HQ2.out]; omega)⟩
          rw [← hV]; exact asc_nth HAs.out (by omega) (by rw [HQ2.out]; exact hlt)
        rw [hV] at hmj hpm
        obtain ⟨p0, p1⟩ := perm_bd hpm
        have hpm' := Lib.hid hpm
        have hmj' := Lib.hid hmj
        clear hpm hmj hV
        by_cases hj0 : j = 0
        · have z5 : ¬ 3 < j := by omega
          have z6 : ¬ 0 < j := by omega
          clear kP hj0
          go_wp2_with fail
          obtain ⟨cs, hcs⟩ : ∃ cs : Array Value, #[.int .i64 (V - 1), .int .i64 V, .int .i64 (V + 1)] = cs := ⟨_, rfl⟩
          rw [hcs]
          have HCS : Hid (∀ t : Nat, t < 3 → cs[t]? = some (.int .i64 (V - 1 + t))) := Lib.hid (fun t ht => by rw [← hcs]; exact arr3 ht)
          clear hcs
          go_loopw [154] (fun vt wr' => ∃ (t : Nat) (de : Ext), t ≤ 3 ∧ vt = .int .i64 (t : Int) ∧ wr' = lay w [.inr de, .inl (.cells cs 3 (0, 0)), .inr dd, .inr d2, .inr dC, .inr dB, .inr dA]) (fun vt _ => 3 - (intOf vt).toNat)
          case atStart => exact ⟨0, noExt _, Nat.zero_le _, rfl, (bw_noExt _).symm⟩
          case round =>
            obtain ⟨t, de, ht, rfl, rfl⟩ := hrel
            by_cases hl3 : t < 3
            · have kx : cs[t]? = some (.int .i64 (V - 1 + t)) := HCS.out t hl3
              obtain ⟨X, hX⟩ : ∃ X, V - 1 + (t : Int) = X := ⟨_, rfl⟩
              rw [hX] at kx
              have lX : (Lit.int .i64 X).wf = true := lit_bd (by omega)
              have x3 : (t : Int) < 3 := by omega
              obtain ⟨G, F, hGF, HPX⟩ : ∃ G F, ((G = 0 ∧ F = R.contains X) ∨ (G = 1 ∧ X ≠ V)) ∧ Hid (∀ W u, Sl W u (l.set k X) → Calls Try.prog 16 #[u, .int .i64 B, .bool wr] W fun e w' => e = .returned (.tuple #[.bool F, .int .i64 (posK wr (l.set k X) B), .int .i64 G]) ∧ ∃ d, w' = bw W d) := by
                refine ⟨gvE wr (l.set k X) B, posB wr (l.set k X) B, ?_, Lib.hid (fun W u h => aud_Possible u (l.set k X) wr B W h)⟩
                by_cases hp : permB wr X = true
                · have hg2 := giv_set HG1.out k X hp
                  have e3 : gvE wr (l.set k X) B = 0 := gvE_0.2 ⟨hg2, B0, B1⟩
                  refine .inl ⟨e3, ?_⟩
                  rw [Bool.eq_iff_iff, posB_iff e3, List.contains_iff_mem, HMe.out _ hp]
                · refine .inr ⟨gvE_1 HG1.out (by rw [HM.out]; exact klt) hp, fun h => hp (h ▸ hpm'.out)⟩
              generalize posK wr (l.set k X) B = PK at *
              clear hX
              go_wp2_with fail
              refine (HCl.out _ (HS.out.lay _)).mono ?_
              rintro e w' ⟨v3, d3, rfl, rfl, hv3⟩
              obtain ⟨g, c, rfl, h1, h2, h3, h4⟩ := hv3.form1 (by rw [HM.out]; omega)
              rw [HM.out] at hv3 h3 ⊢
              have k0 := hv3.cell (i := k) (by rw [HM.out]; omega)
              have k1 := hv3.froz k
              obtain ⟨d', hd'⟩ := bw_store (d := d3) (i := k) (v := .int .i64 X) h1
              have hv4 := ow_store hv3 k X lX
              rw [hd'] at hv4
              rw [lay_bw] at k0 k1 hv4
              rw [lay_bw, lay_bw] at hd'
              have HW := Lib.hid hv4.sl
              clear hv3 hv4 h1 h2
              go_wp2_with fail
              refine (HPX.out _ _ HW.out).mono ?_
              rintro e w' ⟨rfl, d5, rfl⟩
              rw [lay_bw]
              rcases hGF with ⟨rfl, rfl⟩ | ⟨rfl, hne⟩
              · go_wp2_with (first | (go_at_call 21; refine (HCo.out _ _ X (sl_on (A := [_, _, _, _, _]) HV.out.sl)).mono ?_; rintro e w' ⟨rfl, rfl⟩))
                go_roundw
                case rel => exact ⟨t + 1, _, by omega, by go_num, Classical.choose_spec (lay_fold w [_, _, _] _)⟩
                case measure => simp [intOf]; omega
              · have z9 : (X == V) = false := beq_eq_false_iff_ne.2 hne
                go_wp2_with fail
                go_roundw
                case rel => exact ⟨t + 1, _, by omega, by go_num, Classical.choose_spec (lay_fold w [_, _, _] _)⟩
                case measure => simp [intOf]; omega
            · obtain rfl : t = 3 := by omega
              go_wp2_with fail
              go_roundw
              case rel => exact ⟨j + 1, _, by omega, by go_num, Classical.choose_spec (lay_fold w [_, _, _] _)⟩
              case measure => simp [intOf]; omega
        · obtain ⟨kp1, kp2⟩ := kP (by omega)
          generalize nth R (j - 1) = U at *
          have y5 : (0 : Int) ≤ (j : Int) - 1 := by omega
          have y6 : (j : Int) - 1 < (q : Int) := by omega
          have y7 : ((j : Int) - 1).toNat = j - 1 := by omega
          go_wp2_with fail
          obtain ⟨cs, hcs⟩ : ∃ cs : Array Value, #[.int .i64 (V - 1), .int .i64 V, .int .i64 (V + 1)] = cs := ⟨_, rfl⟩
          rw [hcs]
          have HCS : Hid (∀ t : Nat, t < 3 → cs[t]? = some (.int .i64 (V - 1 + t))) := Lib.hid (fun t ht => by rw [← hcs]; exact arr3 ht)
          clear hcs
          go_loopw [154] (fun vt wr' => ∃ (t : Nat) (de : Ext), t ≤ 3 ∧ vt = .int .i64 (t : Int) ∧ wr' = lay w [.inr de, .inl (.cells cs 3 (0, 0)), .inr dd, .inr d2, .inr dC, .inr dB, .inr dA]) (fun vt _ => 3 - (intOf vt).toNat)
          case atStart => exact ⟨0, noExt _, Nat.zero_le _, rfl, (bw_noExt _).symm⟩
          case round =>
            obtain ⟨t, de, ht, rfl, rfl⟩ := hrel
            by_cases hl3 : t < 3
            · have kx : cs[t]? = some (.int .i64 (V - 1 + t)) := HCS.out t hl3
              obtain ⟨X, hX⟩ : ∃ X, V - 1 + (t : Int) = X := ⟨_, rfl⟩
              rw [hX] at kx
              have lX : (Lit.int .i64 X).wf = true := lit_bd (by omega)
              have x3 : (t : Int) < 3 := by omega
              obtain ⟨G, F, hGF, HPX⟩ : ∃ G F, ((G = 0 ∧ F = R.contains X) ∨ (G = 1 ∧ X ≠ V)) ∧ Hid (∀ W u, Sl W u (l.set k X) → Calls Try.prog 16 #[u, .int .i64 B, .bool wr] W fun e w' => e = .returned (.tuple #[.bool F, .int .i64 (posK wr (l.set k X) B), .int .i64 G]) ∧ ∃ d, w' = bw W d) := by
                refine ⟨gvE wr (l.set k X) B, posB wr (l.set k X) B, ?_, Lib.hid (fun W u h => aud_Possible u (l.set k X) wr B W h)⟩
                by_cases hp : permB wr X = true
                · have hg2 := giv_set HG1.out k X hp
                  have e3 : gvE wr (l.set k X) B = 0 := gvE_0.2 ⟨hg2, B0, B1⟩
                  refine .inl ⟨e3, ?_⟩
                  rw [Bool.eq_iff_iff, posB_iff e3, List.contains_iff_mem, HMe.out _ hp]
                · refine .inr ⟨gvE_1 HG1.out (by rw [HM.out]; exact klt) hp, fun h => hp (h ▸ hpm'.out)⟩
              generalize posK wr (l.set k X) B = PK at *
              clear hX
              have hns : ¬ 3 < j ∨ (3 < j ∧ ¬ (j : Int) < (q : Int) - 3) ∨ (3 < j ∧ (j : Int) < (q : Int) - 3 ∧ (X == V) = false) ∨ (3 < j ∧ (j : Int) < (q : Int) - 3 ∧ (X == V) = true) := by
                by_cases z5 : 3 < j
                · by_cases z6 : (j : Int) < (q : Int) - 3
                  · cases z7 : (X == V)
                    · exact .inr (.inr (.inl ⟨z5, z6, rfl⟩))
                    · exact .inr (.inr (.inr ⟨z5, z6, rfl⟩))
                  · exact .inr (.inl ⟨z5, z6⟩)
                · exact .inl z5
              rcases hns with z5 | ⟨z5, z6⟩ | ⟨z5, z6, z7⟩ | ⟨z5, z6, z7⟩
              · go_wp2_with fail
                refine (HCl.out _ (HS.out.lay _)).mono ?_
                rintro e w' ⟨v3, d3, rfl, rfl, hv3⟩
                obtain ⟨g, c, rfl, h1, h2, h3, h4⟩ := hv3.form1 (by rw [HM.out]; omega)
                rw [HM.out] at hv3 h3 ⊢
                have k0 := hv3.cell (i := k) (by rw [HM.out]; omega)
                have k1 := hv3.froz k
                obtain ⟨d', hd'⟩ := bw_store (d := d3) (i := k) (v := .int .i64 X) h1
                have hv4 := ow_store hv3 k X lX
                rw [hd'] at hv4
                rw [lay_bw] at k0 k1 hv4
                rw [lay_bw, lay_bw] at hd'
                have HW := Lib.hid hv4.sl
                clear hv3 hv4 h1 h2
                go_wp2_with fail
                refine (HPX.out _ _ HW.out).mono ?_
                rintro e w' ⟨rfl, d5, rfl⟩
                rw [lay_bw]
                rcases hGF with ⟨rfl, rfl⟩ | ⟨rfl, hne⟩
                · go_wp2_with (first | (go_at_call 21; refine (HCo.out _ _ X (sl_on (A := [_, _, _, _, _]) HV.out.sl)).mono ?_; rintro e w' ⟨rfl, rfl⟩))
                  go_roundw
                  case rel => exact ⟨t + 1, _, by omega, by go_num, Classical.choose_spec (lay_fold w [_, _, _] _)⟩
                  case measure => simp [intOf]; omega
                · have z9 : (X == V) = false := beq_eq_false_iff_ne.2 hne
                  go_wp2_with fail
                  go_roundw
                  case rel => exact ⟨t + 1, _, by omega, by go_num, Classical.choose_spec (lay_fold w [_, _, _] _)⟩
                  case measure => simp [intOf]; omega
              · go_wp2_with fail
                refine (HCl.out _ (HS.out.lay _)).mono ?_
                rintro e w' ⟨v3, d3, rfl, rfl, hv3⟩
                obtain ⟨g, c, rfl, h1, h2, h3, h4⟩ := hv3.form1 (by rw [HM.out]; omega)
                rw [HM.out] at hv3 h3 ⊢
                have k0 := hv3.cell (i := k) (by rw [HM.out]; omega)
                have k1 := hv3.froz k
                obtain ⟨d', hd'⟩ := bw_store (d := d3) (i := k) (v := .int .i64 X) h1
                have hv4 := ow_store hv3 k X lX
                rw [hd'] at hv4
                rw [lay_bw] at k0 k1 hv4
                rw [lay_bw, lay_bw] at hd'
                have HW := Lib.hid hv4.sl
                clear hv3 hv4 h1 h2
                go_wp2_with fail
                refine (HPX.out _ _ HW.out).mono ?_
                rintro e w' ⟨rfl, d5, rfl⟩
                rw [lay_bw]
                rcases hGF with ⟨rfl, rfl⟩ | ⟨rfl, hne⟩
                · go_wp2_with (first | (go_at_call 21; refine (HCo.out _ _ X (sl_on (A := [_, _, _, _, _]) HV.out.sl)).mono ?_; rintro e w' ⟨rfl, rfl⟩))
                  go_roundw
                  case rel => exact ⟨t + 1, _, by omega, by go_num, Classical.choose_spec (lay_fold w [_, _, _] _)⟩
                  case measure => simp [intOf]; omega
                · have z9 : (X == V) = false := beq_eq_false_iff_ne.2 hne
                  go_wp2_with fail
                  go_roundw
                  case rel => exact ⟨t + 1, _, by omega, by go_num, Classical.choose_spec (lay_fold w [_, _, _] _)⟩
                  case measure => simp [intOf]; omega
              · go_wp2_with fail
                refine (HCl.out _ (HS.out.lay _)).mono ?_
                rintro e w' ⟨v3, d3, rfl, rfl, hv3⟩
                obtain ⟨g, c, rfl, h1, h2, h3, h4⟩ := hv3.form1 (by rw [HM.out]; omega)
                rw [HM.out] at hv3 h3 ⊢
                have k0 := hv3.cell (i := k) (by rw [HM.out]; omega)
                have k1 := hv3.froz k
                obtain ⟨d', hd'⟩ := bw_store (d := d3) (i := k) (v := .int .i64 X) h1
                have hv4 := ow_store hv3 k X lX
                rw [hd'] at hv4
                rw [lay_bw] at k0 k1 hv4
                rw [lay_bw, lay_bw] at hd'
                have HW := Lib.hid hv4.sl
                clear hv3 hv4 h1 h2
                go_wp2_with fail
                refine (HPX.out _ _ HW.out).mono ?_
                rintro e w' ⟨rfl, d5, rfl⟩
                rw [lay_bw]
                rcases hGF with ⟨rfl, rfl⟩ | ⟨rfl, hne⟩
                · go_wp2_with (first | (go_at_call 21; refine (HCo.out _ _ X (sl_on (A := [_, _, _, _, _]) HV.out.sl)).mono ?_; rintro e w' ⟨rfl, rfl⟩))
                  go_roundw
                  case rel => exact ⟨t + 1, _, by omega, by go_num, Classical.choose_spec (lay_fold w [_, _, _] _)⟩
                  case measure => simp [intOf]; omega
                · have z9 : (X == V) = false := beq_eq_false_iff_ne.2 hne
                  go_wp2_with fail
                  go_roundw
                  case rel => exact ⟨t + 1, _, by omega, by go_num, Classical.choose_spec (lay_fold w [_, _, _] _)⟩
                  case measure => simp [intOf]; omega
              · go_wp2_with fail
                go_roundw
                case rel => exact ⟨t + 1, de, by omega, by go_num, rfl⟩
                case measure => simp [intOf]; omega
            · obtain rfl : t = 3 := by omega
              go_wp2_with fail
              go_roundw
              case rel => exact ⟨j + 1, _, by omega, by go_num, Classical.choose_spec (lay_fold w [_, _, _] _)⟩
              case measure => simp [intOf]; omega
      · obtain rfl : j = q := by omega
        have x1 : ¬ (j : Int) < (j : Int) := by omega
        go_wp2
        go_ret
        exact ⟨rfl, lay_ex _ _⟩
  · obtain rfl := hm rfl
    replace hx := hx rfl
    clear hm
    refine lay_start ?_
    go_enter Try.func7, Try.ntmps7
    go_wp2_with (first | (go_at_call 10; with_reducible refine (law15_awake _).mono ?_; rintro e w' ⟨rfl, dA, rfl⟩) | (go_at_call 13; with_reducible refine (HG.out _ (HS.out.lay _)).mono ?_; rintro e w' ⟨rfl, rfl⟩) | (go_at_call 16; first | (with_reducible refine (HP.out _ (HS.out.lay _)).mono ?_; rintro e w' ⟨rfl, dB, rfl⟩) | (with_reducible refine (HQ.out _ (HS.out.lay _)).mono ?_; rintro e w' ⟨rfl, dC, rfl⟩)))
    refine (HR.out _ (HS.out.lay _)).mono ?_
    rintro e w' ⟨v2, d2, rfl, rfl, hv⟩
    obtain ⟨g2, c2, rfl, -⟩ := hv.form1 (by rw [HQ2.out]; exact q0)
    rw [HQ2.out, lay_bw] at hv
    rw [HQ2.out, lay_bw]
    have HV := Lib.hid hv
    clear hv
    have z1 : ((q : Int) == 0) = false := beq_eq_false_iff_ne.2 (by omega)
    have z2 : decide ((1000 : Int) < (q : Int)) = false := decide_eq_false (by omega)
    go_wp2_with (first | (go_at_call 21; refine (HCo.out _ _ N HV.out.sl).mono ?_; rw [hx]; rintro e w' ⟨rfl, rfl⟩))
    go_loopw [131] (fun vi wr' => ∃ (j : Nat) (dd : Ext), j ≤ q ∧ vi = .int .i64 (j : Int) ∧ wr' = lay w [.inr dd, .inr d2, .inr dC, .inr dB, .inr dA]) (fun vi _ => q - (intOf vi).toNat)
    case atStart => exact ⟨0, noExt _, Nat.zero_le _, rfl, (bw_noExt _).symm⟩
    case round =>
      obtain ⟨j, dd, hj, rfl, rfl⟩ := hrel
      by_cases hlt : j < q
      · have x1 : (j : Int) < (q : Int) := by omega
        have hmj : nth R j ∈ R := nth_mem (by rw [HQ2.out]; exact hlt)
        have hpm := HPe.out _ hmj
        obtain ⟨V, hV⟩ : ∃ V, nth R j = V := ⟨_, rfl⟩
        have kV : (lay w [.inr dd, .inr d2, .inr dC, .inr dB, .inr dA]).cell? ⟨g2, j, none⟩ = some (.int .i64 V) := by
          rw [← hV]; exact (ow_on (A := [.inr dd]) HV.out).cell (i := j) (by rw [HQ2.out]; exact hlt)
        have kP : 0 < j → nth R (j - 1) < V ∧ (lay w [.inr dd, .inr d2, .inr dC, .inr dB, .inr dA]).cell? ⟨g2, j - 1, none⟩ = some (.int .i64 (nth R (j - 1))) := fun h0 => by
          refine ⟨?_, (ow_on (A := [.inr dd]) HV.out).cell (i := j - 1) (by rw [HQ2.out]; omega)⟩
          rw [← hV]; exact asc_nth HAs.out (by omega) (by rw [HQ2.out]; exact hlt)
        rw [hV] at hmj hpm
        obtain ⟨p0, p1⟩ := perm_bd hpm
        have hpm' := Lib.hid hpm
        have hmj' := Lib.hid hmj
        clear hpm hmj hV
        by_cases hj0 : j = 0
        · have z5 : ¬ 3 < j := by omega
          have z6 : ¬ 0 < j := by omega
          clear kP hj0
          go_wp2_with fail
          obtain ⟨cs, hcs⟩ : ∃ cs : Array Value, #[.int .i64 (V - 1), .int .i64 V, .int .i64 (V + 1)] = cs := ⟨_, rfl⟩
          rw [hcs]
          have HCS : Hid (∀ t : Nat, t < 3 → cs[t]? = some (.int .i64 (V - 1 + t))) := Lib.hid (fun t ht => by rw [← hcs]; exact arr3 ht)
          clear hcs
          go_loopw [154] (fun vt wr' => ∃ (t : Nat) (de : Ext), t ≤ 3 ∧ vt = .int .i64 (t : Int) ∧ wr' = lay w [.inr de, .inl (.cells cs 3 (0, 0)), .inr dd, .inr d2, .inr dC, .inr dB, .inr dA]) (fun vt _ => 3 - (intOf vt).toNat)
          case atStart => exact ⟨0, noExt _, Nat.zero_le _, rfl, (bw_noExt _).symm⟩
          case round =>
            obtain ⟨t, de, ht, rfl, rfl⟩ := hrel
            by_cases hl3 : t < 3
            · have kx : cs[t]? = some (.int .i64 (V - 1 + t)) := HCS.out t hl3
              obtain ⟨X, hX⟩ : ∃ X, V - 1 + (t : Int) = X := ⟨_, rfl⟩
              rw [hX] at kx
              have lX : (Lit.int .i64 X).wf = true := lit_bd (by omega)
              have x3 : (t : Int) < 3 := by omega
              obtain ⟨G, F, hGF, HPX⟩ : ∃ G F, ((G = 0 ∧ F = R.contains X) ∨ (G = 1 ∧ X ≠ V)) ∧ Hid (∀ W u, Sl W u (l.set k X) → Calls Try.prog 16 #[u, .int .i64 B, .bool wr] W fun e w' => e = .returned (.tuple #[.bool F, .int .i64 (posK wr (l.set k X) B), .int .i64 G]) ∧ ∃ d, w' = bw W d) := by
                refine ⟨gvE wr (l.set k X) B, posB wr (l.set k X) B, ?_, Lib.hid (fun W u h => aud_Possible u (l.set k X) wr B W h)⟩
                by_cases hp : permB wr X = true
                · have hg2 := giv_set HG1.out k X hp
                  have e3 : gvE wr (l.set k X) B = 0 := gvE_0.2 ⟨hg2, B0, B1⟩
                  refine .inl ⟨e3, ?_⟩
                  rw [Bool.eq_iff_iff, posB_iff e3, List.contains_iff_mem, HMe.out _ hp]
                · refine .inr ⟨gvE_1 HG1.out (by rw [HM.out]; exact klt) hp, fun h => hp (h ▸ hpm'.out)⟩
              generalize posK wr (l.set k X) B = PK at *
              clear hX
              go_wp2_with fail
              refine (HCl.out _ (HS.out.lay _)).mono ?_
              rintro e w' ⟨v3, d3, rfl, rfl, hv3⟩
              obtain ⟨g, c, rfl, h1, h2, h3, h4⟩ := hv3.form1 (by rw [HM.out]; omega)
              rw [HM.out] at hv3 h3 ⊢
              have k0 := hv3.cell (i := k) (by rw [HM.out]; omega)
              have k1 := hv3.froz k
              obtain ⟨d', hd'⟩ := bw_store (d := d3) (i := k) (v := .int .i64 X) h1
              have hv4 := ow_store hv3 k X lX
              rw [hd'] at hv4
              rw [lay_bw] at k0 k1 hv4
              rw [lay_bw, lay_bw] at hd'
              have HW := Lib.hid hv4.sl
              clear hv3 hv4 h1 h2
              go_wp2_with fail
              refine (HPX.out _ _ HW.out).mono ?_
              rintro e w' ⟨rfl, d5, rfl⟩
              rw [lay_bw]
              rcases hGF with ⟨rfl, rfl⟩ | ⟨rfl, hne⟩
              · go_wp2_with (first | (go_at_call 21; refine (HCo.out _ _ X (sl_on (A := [_, _, _, _, _]) HV.out.sl)).mono ?_; rintro e w' ⟨rfl, rfl⟩))
                go_roundw
                case rel => exact ⟨t + 1, _, by omega, by go_num, Classical.choose_spec (lay_fold w [_, _, _] _)⟩
                case measure => simp [intOf]; omega
              · have z9 : (X == V) = false := beq_eq_false_iff_ne.2 hne
                go_wp2_with fail
                go_roundw
                case rel => exact ⟨t + 1, _, by omega, by go_num, Classical.choose_spec (lay_fold w [_, _, _] _)⟩
                case measure => simp [intOf]; omega
            · obtain rfl : t = 3 := by omega
              go_wp2_with fail
              go_roundw
              case rel => exact ⟨j + 1, _, by omega, by go_num, Classical.choose_spec (lay_fold w [_, _, _] _)⟩
              case measure => simp [intOf]; omega
        · obtain ⟨kp1, kp2⟩ := kP (by omega)
          generalize nth R (j - 1) = U at *
          have y5 : (0 : Int) ≤ (j : Int) - 1 := by omega
          have y6 : (j : Int) - 1 < (q : Int) := by omega
          have y7 : ((j : Int) - 1).toNat = j - 1 := by omega
          go_wp2_with fail
          obtain ⟨cs, hcs⟩ : ∃ cs : Array Value, #[.int .i64 (V - 1), .int .i64 V, .int .i64 (V + 1)] = cs := ⟨_, rfl⟩
          rw [hcs]
          have HCS : Hid (∀ t : Nat, t < 3 → cs[t]? = some (.int .i64 (V - 1 + t))) := Lib.hid (fun t ht => by rw [← hcs]; exact arr3 ht)
          clear hcs
          go_loopw [154] (fun vt wr' => ∃ (t : Nat) (de : Ext), t ≤ 3 ∧ vt = .int .i64 (t : Int) ∧ wr' = lay w [.inr de, .inl (.cells cs 3 (0, 0)), .inr dd, .inr d2, .inr dC, .inr dB, .inr dA]) (fun vt _ => 3 - (intOf vt).toNat)
          case atStart => exact ⟨0, noExt _, Nat.zero_le _, rfl, (bw_noExt _).symm⟩
          case round =>
            obtain ⟨t, de, ht, rfl, rfl⟩ := hrel
            by_cases hl3 : t < 3
            · have kx : cs[t]? = some (.int .i64 (V - 1 + t)) := HCS.out t hl3
              obtain ⟨X, hX⟩ : ∃ X, V - 1 + (t : Int) = X := ⟨_, rfl⟩
              rw [hX] at kx
              have lX : (Lit.int .i64 X).wf = true := lit_bd (by omega)
              have x3 : (t : Int) < 3 := by omega
              obtain ⟨G, F, hGF, HPX⟩ : ∃ G F, ((G = 0 ∧ F = R.contains X) ∨ (G = 1 ∧ X ≠ V)) ∧ Hid (∀ W u, Sl W u (l.set k X) → Calls Try.prog 16 #[u, .int .i64 B, .bool wr] W fun e w' => e = .returned (.tuple #[.bool F, .int .i64 (posK wr (l.set k X) B), .int .i64 G]) ∧ ∃ d, w' = bw W d) := by
                refine ⟨gvE wr (l.set k X) B, posB wr (l.set k X) B, ?_, Lib.hid (fun W u h => aud_Possible u (l.set k X) wr B W h)⟩
                by_cases hp : permB wr X = true
                · have hg2 := giv_set HG1.out k X hp
                  have e3 : gvE wr (l.set k X) B = 0 := gvE_0.2 ⟨hg2, B0, B1⟩
                  refine .inl ⟨e3, ?_⟩
                  rw [Bool.eq_iff_iff, posB_iff e3, List.contains_iff_mem, HMe.out _ hp]
                · refine .inr ⟨gvE_1 HG1.out (by rw [HM.out]; exact klt) hp, fun h => hp (h ▸ hpm'.out)⟩
              generalize posK wr (l.set k X) B = PK at *
              clear hX
              have hns : ¬ 3 < j ∨ (3 < j ∧ ¬ (j : Int) < (q : Int) - 3) ∨ (3 < j ∧ (j : Int) < (q : Int) - 3 ∧ (X == V) = false) ∨ (3 < j ∧ (j : Int) < (q : Int) - 3 ∧ (X == V) = true) := by
                by_cases z5 : 3 < j
                · by_cases z6 : (j : Int) < (q : Int) - 3
                  · cases z7 : (X == V)
                    · exact .inr (.inr (.inl ⟨z5, z6, rfl⟩))
                    · exact .inr (.inr (.inr ⟨z5, z6, rfl⟩))
                  · exact .inr (.inl ⟨z5, z6⟩)
                · exact .inl z5
              rcases hns with z5 | ⟨z5, z6⟩ | ⟨z5, z6, z7⟩ | ⟨z5, z6, z7⟩
              · go_wp2_with fail
                refine (HCl.out _ (HS.out.lay _)).mono ?_
                rintro e w' ⟨v3, d3, rfl, rfl, hv3⟩
                obtain ⟨g, c, rfl, h1, h2, h3, h4⟩ := hv3.form1 (by rw [HM.out]; omega)
                rw [HM.out] at hv3 h3 ⊢
                have k0 := hv3.cell (i := k) (by rw [HM.out]; omega)
                have k1 := hv3.froz k
                obtain ⟨d', hd'⟩ := bw_store (d := d3) (i := k) (v := .int .i64 X) h1
                have hv4 := ow_store hv3 k X lX
                rw [hd'] at hv4
                rw [lay_bw] at k0 k1 hv4
                rw [lay_bw, lay_bw] at hd'
                have HW := Lib.hid hv4.sl
                clear hv3 hv4 h1 h2
                go_wp2_with fail
                refine (HPX.out _ _ HW.out).mono ?_
                rintro e w' ⟨rfl, d5, rfl⟩
                rw [lay_bw]
                rcases hGF with ⟨rfl, rfl⟩ | ⟨rfl, hne⟩
                · go_wp2_with (first | (go_at_call 21; refine (HCo.out _ _ X (sl_on (A := [_, _, _, _, _]) HV.out.sl)).mono ?_; rintro e w' ⟨rfl, rfl⟩))
                  go_roundw
                  case rel => exact ⟨t + 1, _, by omega, by go_num, Classical.choose_spec (lay_fold w [_, _, _] _)⟩
                  case measure => simp [intOf]; omega
                · have z9 : (X == V) = false := beq_eq_false_iff_ne.2 hne
                  go_wp2_with fail
                  go_roundw
                  case rel => exact ⟨t + 1, _, by omega, by go_num, Classical.choose_spec (lay_fold w [_, _, _] _)⟩
                  case measure => simp [intOf]; omega
              · go_wp2_with fail
                refine (HCl.out _ (HS.out.lay _)).mono ?_
                rintro e w' ⟨v3, d3, rfl, rfl, hv3⟩
                obtain ⟨g, c, rfl, h1, h2, h3, h4⟩ := hv3.form1 (by rw [HM.out]; omega)
                rw [HM.out] at hv3 h3 ⊢
                have k0 := hv3.cell (i := k) (by rw [HM.out]; omega)
                have k1 := hv3.froz k
                obtain ⟨d', hd'⟩ := bw_store (d := d3) (i := k) (v := .int .i64 X) h1
                have hv4 := ow_store hv3 k X lX
                rw [hd'] at hv4
                rw [lay_bw] at k0 k1 hv4
                rw [lay_bw, lay_bw] at hd'
                have HW := Lib.hid hv4.sl
                clear hv3 hv4 h1 h2
                go_wp2_with fail
                refine (HPX.out _ _ HW.out).mono ?_
                rintro e w' ⟨rfl, d5, rfl⟩
                rw [lay_bw]
                rcases hGF with ⟨rfl, rfl⟩ | ⟨rfl, hne⟩
                · go_wp2_with (first | (go_at_call 21; refine (HCo.out _ _ X (sl_on (A := [_, _, _, _, _]) HV.out.sl)).mono ?_; rintro e w' ⟨rfl, rfl⟩))
                  go_roundw
                  case rel => exact ⟨t + 1, _, by omega, by go_num, Classical.choose_spec (lay_fold w [_, _, _] _)⟩
                  case measure => simp [intOf]; omega
                · have z9 : (X == V) = false := beq_eq_false_iff_ne.2 hne
                  go_wp2_with fail
                  go_roundw
                  case rel => exact ⟨t + 1, _, by omega, by go_num, Classical.choose_spec (lay_fold w [_, _, _] _)⟩
                  case measure => simp [intOf]; omega
              · go_wp2_with fail
                refine (HCl.out _ (HS.out.lay _)).mono ?_
                rintro e w' ⟨v3, d3, rfl, rfl, hv3⟩
                obtain ⟨g, c, rfl, h1, h2, h3, h4⟩ := hv3.form1 (by rw [HM.out]; omega)
                rw [HM.out] at hv3 h3 ⊢
                have k0 := hv3.cell (i := k) (by rw [HM.out]; omega)
                have k1 := hv3.froz k
                obtain ⟨d', hd'⟩ := bw_store (d := d3) (i := k) (v := .int .i64 X) h1
                have hv4 := ow_store hv3 k X lX
                rw [hd'] at hv4
                rw [lay_bw] at k0 k1 hv4
                rw [lay_bw, lay_bw] at hd'
                have HW := Lib.hid hv4.sl
                clear hv3 hv4 h1 h2
                go_wp2_with fail
                refine (HPX.out _ _ HW.out).mono ?_
                rintro e w' ⟨rfl, d5, rfl⟩
                rw [lay_bw]
                rcases hGF with ⟨rfl, rfl⟩ | ⟨rfl, hne⟩
                · go_wp2_with (first | (go_at_call 21; refine (HCo.out _ _ X (sl_on (A := [_, _, _, _, _]) HV.out.sl)).mono ?_; rintro e w' ⟨rfl, rfl⟩))
                  go_roundw
                  case rel => exact ⟨t + 1, _, by omega, by go_num, Classical.choose_spec (lay_fold w [_, _, _] _)⟩
                  case measure => simp [intOf]; omega
                · have z9 : (X == V) = false := beq_eq_false_iff_ne.2 hne
                  go_wp2_with fail
                  go_roundw
                  case rel => exact ⟨t + 1, _, by omega, by go_num, Classical.choose_spec (lay_fold w [_, _, _] _)⟩
                  case measure => simp [intOf]; omega
              · go_wp2_with fail
                go_roundw
                case rel => exact ⟨t + 1, de, by omega, by go_num, rfl⟩
                case measure => simp [intOf]; omega
            · obtain rfl : t = 3 := by omega
              go_wp2_with fail
              go_roundw
              case rel => exact ⟨j + 1, _, by omega, by go_num, Classical.choose_spec (lay_fold w [_, _, _] _)⟩
              case measure => simp [intOf]; omega
      · obtain rfl : j = q := by omega
        have x1 : ¬ (j : Int) < (j : Int) := by omega
        go_wp2
        go_ret
        exact ⟨rfl, lay_ex _ _⟩
end Go.Proofs.Ytgpgfmemnhgmbaa

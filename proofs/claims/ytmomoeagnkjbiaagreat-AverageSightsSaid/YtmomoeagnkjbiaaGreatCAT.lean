/- Contracts and plain laws, several texts in one: Die; DgN; DgO -/
import Derived.Test.YtmomoeagnkjbiaaGreatProg
import Derived.WalkKit
import Derived.WalkSpells
import Derived.WalkLawsBesides
import Derived.Lib.Hide
import Derived.BigQuiet
import Derived.Test.YtmomoeagnkjbiaaGreatCAA
import Derived.Test.YtmomoeagnkjbiaaGreatCAB
import Derived.Test.YtmomoeagnkjbiaaGreatCAS
/- The reference's digits: Over. -/
namespace Go.Proofs.YtmomoeagnkjbiaaGreat
open Go.RowKit

theorem ow_one {w : World} {L : List (Obj ⊕ Ext)} {x : Int} (hx : (Lit.int .i64 x).wf = true) : Ow (lay w (.inl (.cells #[.int .i64 x] 3 (0, 0)) :: L)) (lay w L).heap.size (.slice (some ⟨posn w (shp L), 0, none⟩) 1 1) [x] := by
  rw [← lay_size w L]
  refine ⟨World.ownsRow_lit (lay w L) #[.int .i64 x] 1 (Nat.le_refl _) (by decide) rfl, fun i hi => ?_⟩
  obtain rfl : i = 0 := by simp at hi; exact hi
  exact hx
theorem ow_formN {w : World} {base : Nat} {v : Value} {l : List Int} (h : Ow w base v l) : ∃ A c, v = .slice A l.length c ∧ (A = none → c = 0) := by
  rcases h.1.2 with ⟨rfl, hz⟩ | ⟨g, cap, cur, rfl, _⟩
  · exact ⟨none, 0, by rw [hz], fun _ => rfl⟩
  · exact ⟨_, cap, rfl, fun h => by cases h⟩
theorem ow_other {w : World} {base k j : Nat} {v x : Value} {l : List Int} (h : Ow w base v l) (hk : k < base) : Ow (w.setCell ⟨k, j, none⟩ x) base v l := by
  refine ⟨⟨h.1.1, h.1.2.imp id ?_⟩, h.2⟩
  rintro ⟨g, cap, cur, e, h1, h2, h3⟩
  refine ⟨g, cap, cur, e, h1, ?_, h3⟩
  rw [heap_setCell_other _ ⟨k, j, none⟩ g x (by intro e; have : g = k := by simpa using e
                                                omega)]
  exact h2
theorem can_len {r b : List Int} (hr : Can r) (hb : Can b) (h : valD r < valD b) : r.length ≤ b.length := by
  rcases Nat.lt_or_ge b.length r.length with h1 | h1
  · have := hr.short hb.1 h1; omega
  · exact h1
/-- Where the search of a digit stands. -/
structure DigI (B r lo hi : Int) : Prop where
  l0 : 0 ≤ lo
  lh : lo ≤ hi
  h1 : hi < dB
  le : B * lo ≤ r
  lt : r < B * (hi + 1)
theorem DigI.start {B r : Int} (h0 : 0 ≤ r) (h : r < B * dB) : DigI B r 0 268435455 := ⟨by decide, by decide, by decide, by omega, h⟩
theorem DigI.up {B r lo hi m : Int} (h : DigI B r lo hi) (h1 : lo ≤ m) (h2 : m ≤ hi) (hle : B * m ≤ r) : DigI B r m hi := ⟨by have := h.l0; omega, h2, h.h1, hle, h.lt⟩
theorem DigI.down {B r lo hi m : Int} (h : DigI B r lo hi) (h1 : lo < m) (h2 : m ≤ hi) (hlt : r < B * m) : DigI B r lo (m - 1) := ⟨h.l0, by omega, by have := h.h1; omega, h.le, by rw [show m - 1 + 1 = m by omega]; exact hlt⟩
theorem dg_one {m : Int} (h0 : 0 ≤ m) (h1 : m < dB) : Dg [m] := Dg.one ⟨h0, h1⟩
/-- Quotient and rest. -/
def OvP (w : World) (a b : List Int) (e : Ending) (w' : World) : Prop := ∃ q r vq vr d, e = .returned (.tuple #[vq, vr]) ∧ w' = bw w d ∧ Ow (bw w d) w.heap.size vq q ∧ Ow (bw w d) w.heap.size vr r ∧ Can q ∧ Can r ∧ valD q = valD a / valD b ∧ valD r = valD a % valD b ∧ q.length ≤ a.length ∧ r.length ≤ b.length
set_option maxHeartbeats 4000000 in
set_option maxRecDepth 100000 in
theorem dg_Over (va vb : Value) (a b : List Int) (w : World) (ha : Sl w va a) (hb : Sl w vb b) (ca : Dg a) (cb : Can b) (hpos : 0 < valD b) (la : a.length ≤ 100000) (lb : b.length ≤ 100000) :
    Calls Tryz.prog 150 #[va, vb] w (OvP w a b) := by
  have HB := Lib.hid hb
  obtain ⟨a1, c1, rfl, hc1, hw1, hx1⟩ := ha
  have HX1 := Lib.hid hx1
  have HCA := Lib.hid (And.intro ca (And.intro cb hpos))
  obtain ⟨n, hn⟩ : ∃ n, a.length = n := ⟨_, rfl⟩
  have HE := Lib.hid hn
  have HLB := Lib.hid lb
  have HST := Lib.hid (OvI.start (a := a) hpos)
  rw [hn] at HST
  have HWF := Lib.hid hw1
  rw [hn] at la ⊢
  have hmk := make_int (m := n) (by omega)
  have HOM : Hid (Ow (lay w [.inl (.cells (madeCells #[.int .i64 0] n) 3 (0, 0))]) (lay w []).heap.size (.slice (some ⟨posn w [], 0, none⟩) n n) (List.replicate n 0)) := Lib.hid (ow_made (L := []) (by omega))
  have hg : w.heap.size ≤ posn w [] := Nat.le_refl _
  obtain ⟨N0, hN0⟩ : ∃ N0 : Int, (n : Int) - 1 = N0 := ⟨_, rfl⟩
  have kN0 : IntKind.i64.wrap N0 = N0 := IntWalk.i64_in _ (by omega)
  clear hx1 hw1 ca cb hpos hn hb lb
  have HSZ : Hid ((lay w [.inl (.cells (madeCells #[.int .i64 0] n) 3 (0, 0))]).heap.size = posn w [] + 1) := Lib.hid (by show (World.alloc w _).heap.size = _; rw [World.size_alloc]; rfl)
  refine lay_start ?_
  go_enter Tryz.func150, Tryz.ntmps150
  go_wp2_with fail
  obtain ⟨d0, e0⟩ : ∃ x, lay w [.inl (.cells (madeCells #[.int .i64 0] n) 3 (0, 0))] = lay w [.inr x] := by
    obtain ⟨y, hy⟩ := lay_ex w [.inl (.cells (madeCells #[.int .i64 0] n) 3 (0, 0))]
    exact ⟨y, hy⟩
  rw [e0] at HOM HSZ ⊢
  clear e0 hmk
  go_loopw [6, 8] (fun v6 v8 wr => ∃ (i : Nat) (N : Int) (out rest : List Int) (dd : Ext), i ≤ n ∧ N = (i : Int) - 1 ∧ v8 = .int .i64 N ∧ wr = lay w [.inr dd] ∧ Ow (lay w [.inr dd]) (lay w []).heap.size (.slice (some ⟨posn w [], 0, none⟩) n n) out ∧ Ow (lay w [.inr dd]) (posn w [] + 1) v6 rest ∧ OvI a b i out rest ∧ posn w [] + 1 ≤ (lay w [.inr dd]).heap.size) (fun _ v8 _ => (intOf v8 + 1).toNat)
  case atStart => exact ⟨n, N0, _, [], d0, Nat.le_refl _, hN0.symm, rfl, rfl, HOM.out, Ow.nil _ _, HST.out, Nat.le_of_eq HSZ.out.symm⟩
  case round =>
    obtain ⟨i0, N, out, rest, dd, hi0, hN, rfl, rfl, hO, hR, hI, hsz⟩ := hrel
    have HO := Lib.hid (And.intro hO (And.intro hI hsz))
    have HR := Lib.hid hR
    have hrl := can_len hI.can HCA.out.2.1 hI.lt
    obtain ⟨A6, c6, hv6, hA6⟩ := ow_formN hR
    subst hv6
    clear hO hI hsz hR kN0 hN0
    by_cases h0 : i0 = 0
    · subst h0
      obtain rfl : N = -1 := by omega
      clear hN
      have HD := Lib.hid (HO.out.2.1.done (valD_bd HO.out.2.1.can.1).1)
      have HTr := Lib.hid (trim_ok out.length out rfl HO.out.2.1.dg)
      have HLn := Lib.hid (trim_len out)
      have HL : Hid (out.length = n) := Lib.hid (by rw [HO.out.2.1.len]; exact HE.out)
      have HT := Lib.hid (dg_Trim _ _ (lay w [.inr dd]) _ HO.out.1 (by rw [HL.out]; omega))
      have HRL := Lib.hid hrl
      have hsl := HR.out.le (show (lay w []).heap.size ≤ posn w [] + 1 from Nat.le_succ _)
      have HSL := Lib.hid hsl
      clear hsl
      obtain ⟨rl, hrl2⟩ : ∃ rl, rest.length = rl := ⟨_, rfl⟩
      rw [hrl2] at HSL
      rw [hrl2]
      clear hrl2
      go_wp2_with fail
      refine HT.out.mono ?_
      rintro e w' ⟨v', d', rfl, rfl, hv'⟩
      have h2 := hv'.le (lay_below (w := w) (A := [.inr dd]) (B := [])).size
      have h3 := ow_on (A := [.inr d']) HSL.out
      rw [lay_bw] at h2 ⊢
      change Ow (lay w [.inr d', .inr dd]) _ _ _ at h3
      obtain ⟨d3, e3⟩ : ∃ x, lay w [.inr d', .inr dd] = lay w [.inr x] := ⟨_, bw_bw _ _ _⟩
      rw [e3] at h2 h3 ⊢
      clear e3 hv'
      have HV2 := Lib.hid (And.intro h2 h3)
      clear h2 h3
      go_wp2_with fail
      go_ret2
      exact ⟨trimD out, rest, _, _, d3, rfl, rfl, HV2.out.1, HV2.out.2, HTr.out.1, HO.out.2.1.can, by rw [HTr.out.2]; exact HD.out.1, HD.out.2, by have := HLn.out; rw [HL.out] at this; rw [HE.out]; exact this, HRL.out⟩
    · obtain ⟨i, rfl⟩ : ∃ i, i0 = i + 1 := ⟨i0 - 1, by omega⟩
      obtain rfl : N = (i : Int) := by omega
      clear hN h0
      have h1 : i < n := by omega
      have x1 : (i : Int) < (n : Int) := by omega
      have x0 : (0 : Int) ≤ (i : Int) := by omega
      obtain ⟨N2, hN2⟩ : ∃ N2 : Int, (i : Int) - 1 = N2 := ⟨_, rfl⟩
      have kN2 : IntKind.i64.wrap N2 = N2 := IntWalk.i64_in _ (by omega)
      obtain ⟨b1, o1, rfl, hb1, hcell1⟩ := HX1.out (by intro h; have := HE.out; rw [h] at this; simp at this; omega)
      have k1 := hcell1 i (by rw [HE.out]; exact h1)
      have na := HCA.out.1.nth i
      have lw := HWF.out i (by rw [HE.out]; exact h1)
      have HRM := Lib.hid (HO.out.2.1.room HCA.out.1)
      clear hcell1
      obtain ⟨A, hA⟩ : ∃ A, nth a i = A := ⟨_, rfl⟩
      rw [hA] at k1 na lw HRM
      have HAA := Lib.hid hA
      have HNA := Lib.hid na
      clear hA na
      obtain ⟨rl, hrl2⟩ : ∃ rl, rest.length = rl := ⟨_, rfl⟩
      have HRS : Hid (∀ L, Sl (lay w (L ++ [.inr dd])) (.slice A6 rl c6) rest) := Lib.hid fun L => by
        have := sl_on (A := L) HR.out.sl
        rwa [hrl2] at this
      have HRL := Lib.hid hrl2
      rw [hrl2] at hrl ⊢
      clear hrl2
      have hlb := HLB.out
      go_wp2_with (at_builtin; refine push_sl rfl _ _ rfl (lay w [.inr dd]) _ _ _ _ _ _ rest ?_ (ow_one (L := [.inr dd]) lw) (HRS.out [_]) hA6 rfl rfl (by rw [HRL.out]; show 1 + rl ≤ _; omega) ?_; exact lay_below (A := [_]); intro v' d' hv'; rw [lay_bw] at hv' ⊢)
      obtain ⟨r, hr⟩ : ∃ r, valD ([A] ++ rest) = r := ⟨_, rfl⟩
      have hrv : r = A + dB * valD rest := by rw [← hr]; rfl
      have HTr := Lib.hid (trim_ok ([A] ++ rest).length ([A] ++ rest) rfl (Dg.app (Dg.one HNA.out) HO.out.2.1.can.1))
      have HLT := Lib.hid (trim_len ([A] ++ rest))
      have HT := Lib.hid (dg_Trim _ _ (lay w [.inr d', .inr dd]) _ hv' (by rw [List.length_append, HRL.out]; show 1 + rl ≤ _; omega))
      rw [hr] at HTr
      have HLen : Hid ((trimD ([A] ++ rest)).length ≤ 1 + rl) := Lib.hid (by have := HLT.out; rw [List.length_append, HRL.out] at this; exact this)
      have HRV := Lib.hid hrv
      have hr0 : 0 ≤ r := by rw [← hr]; exact (valD_bd (Dg.app (Dg.one HNA.out) HO.out.2.1.can.1)).1
      have HR0 := Lib.hid hr0
      clear hv' HLT hr hrv hr0
      go_wp2_with fail
      refine HT.out.mono ?_
      rintro e w' ⟨v6, d6, rfl, rfl, hv6⟩
      rw [lay_bw] at hv6 ⊢
      clear HT
      generalize trimD ([A] ++ rest) = R1 at *
      have HO1 : Hid (Ow (lay w [.inr d6, .inr d', .inr dd]) (lay w []).heap.size (.slice (some ⟨posn w [], 0, none⟩) n n) out) := Lib.hid (ow_on (A := [.inr d6, .inr d']) HO.out.1)
      have hle : posn w [] + 1 ≤ (lay w [.inr d', .inr dd]).heap.size := Nat.le_trans HO.out.2.2 (lay_below (w := w) (A := [.inr d']) (B := [.inr dd])).size
      have HV6 : Hid (Ow (lay w [.inr d6, .inr d', .inr dd]) (posn w [] + 1) v6 R1) := Lib.hid (hv6.le hle)
      have hsz2 : posn w [] + 1 ≤ (lay w [.inr d6, .inr d', .inr dd]).heap.size := Nat.le_trans hle (lay_below (w := w) (A := [.inr d6]) (B := [.inr d', .inr dd])).size
      obtain ⟨d7, e7⟩ : ∃ x, lay w [.inr d6, .inr d', .inr dd] = lay w [.inr x] := by
        obtain ⟨y, hy⟩ := lay_ex w [.inr d6, .inr d', .inr dd]
        exact ⟨y, hy⟩
      rw [e7] at HO1 HV6 hsz2 ⊢
      have HSZ2 := Lib.hid hsz2
      clear hle hsz2 hv6 e7
      have HDI := Lib.hid (DigI.start HR0.out (by rw [HRV.out]; exact HRM.out))
      go_wp2_with fail
      go_loopw [9, 10] (fun v9 v10 wr => ∃ (lo hi : Int) (d2 : Ext), v9 = .int .i64 lo ∧ v10 = .int .i64 hi ∧ wr = lay w [.inr d2] ∧ Ow (lay w [.inr d2]) (lay w []).heap.size (.slice (some ⟨posn w [], 0, none⟩) n n) out ∧ Ow (lay w [.inr d2]) (posn w [] + 1) v6 R1 ∧ DigI (valD b) r lo hi ∧ posn w [] + 1 ≤ (lay w [.inr d2]).heap.size) (fun v9 v10 _ => (intOf v10 - intOf v9).toNat)
      case atStart => exact ⟨0, 268435455, d7, rfl, rfl, rfl, HO1.out, HV6.out, HDI.out, HSZ2.out⟩
      case round =>
        obtain ⟨lo, hi, d2, rfl, rfl, rfl, hO2, hR2, hI2, hsz⟩ := hrel
        have HO2 := Lib.hid (And.intro hO2 (And.intro hR2 (And.intro hI2 hsz)))
        have hl0 := hI2.l0
        have hlh := hI2.lh
        have hh1 := hI2.h1
        rw [dB_eq] at hh1
        clear hO2 hR2 hI2 hsz
        by_cases hlt : lo < hi
        · obtain ⟨S1, hS1⟩ : ∃ S1, lo + hi = S1 := ⟨_, rfl⟩
          obtain ⟨S2, hS2⟩ : ∃ S2, S1 + 1 = S2 := ⟨_, rfl⟩
          have kS1 : IntKind.i64.wrap S1 = S1 := IntWalk.i64_in _ (by omega)
          have kS2 : IntKind.i64.wrap S2 = S2 := IntWalk.i64_in _ (by omega)
          have e2 : S2.tdiv 2 = S2 / 2 := Int.tdiv_eq_ediv_of_nonneg (by omega)
          obtain ⟨m, hm⟩ : ∃ m, S2 / 2 = m := ⟨_, rfl⟩
          rw [hm] at e2
          have hmb : lo < m ∧ m ≤ hi := by omega
          have km : IntKind.i64.wrap m = m := IntWalk.i64_in _ (by omega)
          have lwm : (Lit.int .i64 m).wf = true := lit_b (by omega)
          obtain ⟨m1, hm1⟩ : ∃ m1, m - 1 = m1 := ⟨_, rfl⟩
          have km1 : IntKind.i64.wrap m1 = m1 := IntWalk.i64_in _ (by omega)
          have HMB : Hid (lo < m ∧ m ≤ hi ∧ 0 ≤ m ∧ m < dB ∧ m - 1 = m1 ∧ 0 ≤ lo) := Lib.hid ⟨hmb.1, hmb.2, by omega, by rw [dB_eq]; omega, hm1, hl0⟩
          clear hm hmb hl0 hlh hh1
          go_wp2_with fail
          refine (dg_Times _ _ b [m] _ (HB.out.lay _) ((ow_one (L := [.inr d2]) lwm).sl) HCA.out.2.1.1 (dg_one HMB.out.2.2.1 HMB.out.2.2.2.1) (by omega) (show 1 ≤ 400000 by decide)).mono ?_
          rintro e w' ⟨l, v3, d3, ⟨hl1, hl2, hl3⟩, rfl, rfl, hv3⟩
          rw [lay_bw] at hv3 ⊢
          rw [valD_one] at hl2
          have HOr := dg_Order _ _ l R1 (lay w [.inr d3, .inl (.cells #[.int .i64 m] 3 (0, 0)), .inr d2]) hv3.sl (sl_on (A := [.inr d3, .inl (.cells #[.int .i64 m] 3 (0, 0))]) HO2.out.2.1.sl) hl1 HTr.out.1
          rw [hl2, HTr.out.2] at HOr
          have HOR := Lib.hid HOr
          clear HOr hl1 hl2 hl3 hv3
          go_wp2_with fail
          refine HOR.out.mono ?_
          rintro e w' ⟨rfl, d4, rfl⟩
          rw [lay_bw]
          clear HOR
          obtain ⟨d5, e5⟩ : ∃ x, lay w [.inr d4, .inr d3, .inl (.cells #[.int .i64 m] 3 (0, 0)), .inr d2] = lay w [.inr x] := by
            obtain ⟨y, hy⟩ := lay_ex w [.inr d4, .inr d3, .inl (.cells #[.int .i64 m] 3 (0, 0)), .inr d2]
            exact ⟨y, hy⟩
          have hA1 : Ow (lay w [.inr d4, .inr d3, .inl (.cells #[.int .i64 m] 3 (0, 0)), .inr d2]) (lay w []).heap.size (.slice (some ⟨posn w [], 0, none⟩) n n) out := ow_on (A := [.inr d4, .inr d3, .inl (.cells #[.int .i64 m] 3 (0, 0))]) HO2.out.1
          have hA2 : Ow (lay w [.inr d4, .inr d3, .inl (.cells #[.int .i64 m] 3 (0, 0)), .inr d2]) (posn w [] + 1) v6 R1 := ow_on (A := [.inr d4, .inr d3, .inl (.cells #[.int .i64 m] 3 (0, 0))]) HO2.out.2.1
          have hA3 : posn w [] + 1 ≤ (lay w [.inr d4, .inr d3, .inl (.cells #[.int .i64 m] 3 (0, 0)), .inr d2]).heap.size := Nat.le_trans HO2.out.2.2.2 (lay_below (w := w) (A := [.inr d4, .inr d3, .inl (.cells #[.int .i64 m] 3 (0, 0))]) (B := [.inr d2])).size
          rw [e5] at hA1 hA2 hA3 ⊢
          have HAA3 := Lib.hid (And.intro hA1 (And.intro hA2 hA3))
          clear hA1 hA2 hA3 e5
          by_cases hle : valD b * m ≤ r
          · have HU := Lib.hid (HO2.out.2.2.1.up (Int.le_of_lt HMB.out.1) HMB.out.2.1 hle)
            obtain ⟨O, hO⟩ : ∃ O, ordI (valD b * m) r = O := ⟨_, rfl⟩
            have hO1 : O ≤ 0 := by
              rw [← hO]
              unfold ordI
              split
              · decide
              · rw [if_neg (by omega)]; decide
            rw [hO]
            clear hO hle
            go_wp2_with fail
            go_roundw
            case rel => exact ⟨m, hi, d5, rfl, rfl, rfl, HAA3.out.1, HAA3.out.2.1, HU.out, HAA3.out.2.2⟩
            case measure => have := HMB.out; simp [intOf]; omega
          · have HU := Lib.hid (HO2.out.2.2.1.down HMB.out.1 HMB.out.2.1 (Int.not_le.1 hle))
            rw [HMB.out.2.2.2.2.1] at HU
            rw [ord_gt (Int.not_le.1 hle)]
            clear hle
            go_wp2_with fail
            go_roundw
            case rel => exact ⟨lo, m1, d5, rfl, rfl, rfl, HAA3.out.1, HAA3.out.2.1, HU.out, HAA3.out.2.2⟩
            case measure => have := HMB.out; simp [intOf]; omega
        · obtain rfl : lo = hi := by omega
          have lwl : (Lit.int .i64 lo).wf = true := lit_b (by omega)
          have fz := HO2.out.1.froz i
          have co := HO2.out.1.cell (i := i) (by rw [HO.out.2.1.len, HE.out]; exact h1)
          obtain ⟨d8, e8, hO8⟩ := ow_store1 i HO2.out.1 hg lwl
          have hR8 : Ow ((lay w [.inr d2]).setCell ⟨posn w [], i, none⟩ (.int .i64 lo)) (posn w [] + 1) v6 R1 := ow_other HO2.out.2.1 (Nat.lt_succ_self _)
          have hz8 : posn w [] + 1 ≤ ((lay w [.inr d2]).setCell ⟨posn w [], i, none⟩ (.int .i64 lo)).heap.size := by rw [World.size_setCell]; exact HO2.out.2.2.2
          rw [e8] at hR8 hz8
          have HP8 := Lib.hid (And.intro hO8 (And.intro hR8 hz8))
          have HLO := Lib.hid (show 0 ≤ lo ∧ lo < dB by rw [dB_eq]; omega)
          have HLL := Lib.hid (And.intro HO2.out.2.2.1.le HO2.out.2.2.1.lt)
          clear hO8 hR8 hz8 hl0 hlh hh1 hlt
          go_wp2_with fail
          have HTo := Lib.hid (trim_ok 1 [lo] rfl (dg_one HLO.out.1 HLO.out.2))
          have HTl := Lib.hid (trim_len [lo])
          refine (dg_Trim _ [lo] _ _ (ow_one (L := [.inr d8]) lwl) (show 1 ≤ 1000000 by decide)).mono ?_
          rintro e w' ⟨v9, d9, rfl, rfl, hv9⟩
          rw [lay_bw] at hv9 ⊢
          go_wp2_with fail
          refine (dg_Times _ _ b (trimD [lo]) _ (HB.out.lay _) hv9.sl HCA.out.2.1.1 HTo.out.1.1 (by omega) (by have := HTl.out; simp at this; omega)).mono ?_
          rintro e w' ⟨l, v3, d3, ⟨hl1, hl2, hl3⟩, rfl, rfl, hv3⟩
          rw [lay_bw] at hv3 ⊢
          rw [HTo.out.2, valD_one] at hl2
          have HLs := Lib.hid (dg_Less _ _ R1 l (lay w [.inr d3, .inr d9, .inl (.cells #[.int .i64 lo] 3 (0, 0)), .inr d8]) (sl_on (A := [.inr d3, .inr d9, .inl (.cells #[.int .i64 lo] 3 (0, 0))]) HP8.out.2.1.sl) hv3.sl HTr.out.1 hl1 (by have := HLen.out; omega) (by rw [hl2, HTr.out.2]; exact HLL.out.1))
          rw [hl2, HTr.out.2] at HLs
          clear hl1 hl2 hl3 hv3 hv9
          go_wp2_with fail
          refine HLs.out.mono ?_
          rintro e w' ⟨l2, v4, d4, ⟨hm1, hm2, -⟩, rfl, rfl, hv4⟩
          rw [lay_bw] at hv4 ⊢
          change Ow (lay w [.inr d4, .inr d3, .inr d9, .inl (.cells #[.int .i64 lo] 3 (0, 0)), .inr d8]) (lay w [.inr d3, .inr d9, .inl (.cells #[.int .i64 lo] 3 (0, 0)), .inr d8]).heap.size v4 l2 at hv4
          have hz9 : posn w [] + 1 ≤ (lay w [.inr d3, .inr d9, .inl (.cells #[.int .i64 lo] 3 (0, 0)), .inr d8]).heap.size := Nat.le_trans HP8.out.2.2 (lay_below (w := w) (A := [.inr d3, .inr d9, .inl (.cells #[.int .i64 lo] 3 (0, 0))]) (B := [.inr d8])).size
          have hA2 := hv4.le hz9
          have hA1 : Ow (lay w [.inr d4, .inr d3, .inr d9, .inl (.cells #[.int .i64 lo] 3 (0, 0)), .inr d8]) (lay w []).heap.size (.slice (some ⟨posn w [], 0, none⟩) n n) (out.set i lo) := ow_on (A := [.inr d4, .inr d3, .inr d9, .inl (.cells #[.int .i64 lo] 3 (0, 0))]) HP8.out.1
          have hA3 : posn w [] + 1 ≤ (lay w [.inr d4, .inr d3, .inr d9, .inl (.cells #[.int .i64 lo] 3 (0, 0)), .inr d8]).heap.size := Nat.le_trans hz9 (lay_below (w := w) (A := [.inr d4]) (B := [.inr d3, .inr d9, .inl (.cells #[.int .i64 lo] 3 (0, 0)), .inr d8])).size
          obtain ⟨d5, e5⟩ : ∃ x, lay w [.inr d4, .inr d3, .inr d9, .inl (.cells #[.int .i64 lo] 3 (0, 0)), .inr d8] = lay w [.inr x] := by
            obtain ⟨y, hy⟩ := lay_ex w [.inr d4, .inr d3, .inr d9, .inl (.cells #[.int .i64 lo] 3 (0, 0)), .inr d8]
            exact ⟨y, hy⟩
          have HS := Lib.hid (HO.out.2.1.step (by rw [HE.out]; exact h1) (by rw [HAA.out]; exact HRV.out) HLO.out HLL.out.2 hm1 hm2)
          rw [e5] at hA1 hA2 hA3 ⊢
          have HAA3 := Lib.hid (And.intro hA1 (And.intro hA2 hA3))
          have HIN := Lib.hid (And.intro h1 hN2)
          clear hA1 hA2 hA3 e5 hv4 hz9 hm1 hm2
          go_wp2_with fail
          go_roundw
          case rel => exact ⟨i, N2, out.set i lo, l2, d5, Nat.le_of_lt HIN.out.1, HIN.out.2.symm, rfl, rfl, HAA3.out.1, HAA3.out.2.1, HS.out, HAA3.out.2.2⟩
          case measure => have := HIN.out; simp [intOf]; omega
end Go.Proofs.YtmomoeagnkjbiaaGreat
/- Numbers of digits with a sign: the plain law. No function of the program. -/
namespace Go.Proofs.YtmomoeagnkjbiaaGreat

def numV (neg : Bool) (l : List Int) : Int := if neg then -valD l else valD l
/-- These digits with this sign are z. -/
structure NumK (neg : Bool) (l : List Int) (z : Int) : Prop where
  can : Can l
  val : z = numV neg l
  ok : neg = true → l ≠ []
theorem NumK.abs {neg : Bool} {l : List Int} {z : Int} (h : NumK neg l z) : valD l = z.natAbs := by
  have h1 := (valD_bd h.can.1).1
  have h2 := h.val
  unfold numV at h2
  cases neg
  · simp only [Bool.false_eq_true, if_false] at h2; omega
  · simp only [if_true] at h2; omega
theorem Can.pos {l : List Int} (h : Can l) (hl : l ≠ []) : 0 < valD l := by
  have := h.low hl
  have := dB_pow_pos (l.length - 1)
  omega
theorem NumK.neg_iff {neg : Bool} {l : List Int} {z : Int} (h : NumK neg l z) : neg = decide (z < 0) := by
  have h1 := (valD_bd h.can.1).1
  have h2 := h.val
  unfold numV at h2
  cases neg
  · simp only [Bool.false_eq_true, if_false] at h2
    exact (decide_eq_false (by omega)).symm
  · simp only [if_true] at h2
    have := h.can.pos (h.ok rfl)
    exact (decide_eq_true (by omega)).symm
theorem NumK.zero_iff {neg : Bool} {l : List Int} {z : Int} (h : NumK neg l z) : l = [] ↔ z = 0 := by
  constructor
  · rintro rfl
    have := h.val
    unfold numV at this
    cases neg <;> simp [valD] at this <;> exact this
  · intro hz
    exact h.can.zero (by rw [h.abs, hz]; rfl)
/-- A sign is laid; zero has none. -/
theorem NumK.sign {neg : Bool} {l : List Int} (h : Can l) : NumK (if l = [] then false else neg) l (numV neg l) := by
  by_cases hl : l = []
  · subst hl
    rw [if_pos rfl]
    refine ⟨h, ?_, fun e => by cases e⟩
    cases neg <;> simp [numV, valD]
  · rw [if_neg hl]
    exact ⟨h, rfl, fun _ => hl⟩
theorem NumK.plus_same {n : Bool} {a b l : List Int} {x y : Int} (ha : NumK n a x) (hb : NumK n b y) (hl : Can l) (hv : valD l = valD a + valD b) : NumK n l (x + y) := by
  refine ⟨hl, ?_, fun hn hz => ?_⟩
  · have h1 := ha.val
    have h2 := hb.val
    unfold numV at *
    cases n
    · simp only [Bool.false_eq_true, if_false] at *; omega
    · simp only [if_true] at *; omega
  · subst hz
    have h1 := ha.can.pos (ha.ok hn)
    have h2 := (valD_bd hb.can.1).1
    simp only [valD] at hv
    omega
theorem numV_less {n m : Bool} {a b l : List Int} {x y : Int} (hnm : n ≠ m) (ha : NumK n a x) (hb : NumK m b y) (hv : valD l = valD a - valD b) : numV n l = x + y := by
  have h1 := ha.val
  have h2 := hb.val
  unfold numV at *
  cases n <;> cases m
  · exact absurd rfl hnm
  · simp only [Bool.false_eq_true, if_false, if_true] at *; omega
  · simp only [Bool.false_eq_true, if_false, if_true] at *; omega
  · exact absurd rfl hnm
theorem numV_mul {n m : Bool} {a b l : List Int} {x y : Int} (ha : NumK n a x) (hb : NumK m b y) (hv : valD l = valD a * valD b) : numV (n != m) l = x * y := by
  have h1 := ha.val
  have h2 := hb.val
  unfold numV at *
  cases n <;> cases m <;> simp only [Bool.false_eq_true, if_false, if_true, bne_self_eq_false, Bool.bne_true, Bool.not_false, Bool.bne_false] at * <;> rw [hv, h1, h2]
  · rw [Int.mul_neg]
  · rw [Int.neg_mul]
  · rw [Int.neg_mul, Int.mul_neg, Int.neg_neg]
/-- Rounded down, of a negative number. -/
theorem down_neg (x : Int) {y : Int} (hy : 0 < y) : (-x) / y = if x % y = 0 then -(x / y) else -(x / y + 1) := by
  have h1 := Int.mul_ediv_add_emod x y
  have h2 := Int.emod_nonneg x (show y ≠ 0 by omega)
  have h3 := Int.emod_lt_of_pos x hy
  by_cases h : x % y = 0
  · rw [if_pos h]
    have e : -x = 0 + -(x / y) * y := by rw [Int.neg_mul, Int.mul_comm]; omega
    rw [e, Int.add_mul_ediv_right _ _ (by omega)]; simp
  · rw [if_neg h]
    have e : -x = (y - x % y) + -(x / y + 1) * y := by rw [Int.neg_mul, Int.add_mul, Int.mul_comm]; omega
    rw [e, Int.add_mul_ediv_right _ _ (by omega), Int.ediv_eq_zero_of_lt (by omega) (by omega)]; simp
end Go.Proofs.YtmomoeagnkjbiaaGreat
/- Digits of an int, and back: the plain law. No function of the program. -/
namespace Go.Proofs.YtmomoeagnkjbiaaGreat

/-- i digits of z; n is left. -/
structure OfI (z : Int) (i : Nat) (out : List Int) (n : Int) : Prop where
  len : out.length = i
  dg : Dg out
  val : valD out + dB ^ i * (n.natAbs : Int) = (z.natAbs : Int)
  can : n = 0 → Can out
theorem OfI.start (z : Int) : OfI z 0 [] z := ⟨rfl, Dg.nil, by simp [valD], fun _ => Can.nil⟩
theorem OfI.step {z : Int} {i : Nat} {out : List Int} {n d m : Int} (h : OfI z i out n) (hn : n ≠ 0) (hd : d = (n.natAbs : Int) % dB) (hm : (m.natAbs : Int) = (n.natAbs : Int) / dB) : OfI z (i + 1) (out ++ [d]) m := by
  have hp := dB_pos
  have m0 : 0 ≤ d := by rw [hd]; exact Int.emod_nonneg _ (by omega)
  have m1 : d < dB := by rw [hd]; exact Int.emod_lt_of_pos _ hp
  have e1 := Int.mul_ediv_add_emod (n.natAbs : Int) dB
  rw [← hd, ← hm] at e1
  refine ⟨by rw [List.length_append, h.len]; rfl, h.dg.app (Dg.one ⟨m0, m1⟩), ?_, fun hz => ?_⟩
  · rw [valD_snoc, h.len, Int.pow_succ, Int.mul_assoc]
    have hv := h.val
    have e2 : dB ^ i * d + dB ^ i * (dB * (m.natAbs : Int)) = dB ^ i * (n.natAbs : Int) := by rw [← Int.mul_add]; congr 1; omega
    omega
  · subst hz
    simp only [Int.natAbs_zero, Int.natCast_zero, Int.mul_zero, Int.zero_add] at e1
    exact Can.snoc h.dg (by omega) m1
theorem OfI.done {z : Int} {i : Nat} {out : List Int} (h : OfI z i out 0) : NumK (decide (z < 0)) out z := by
  have hv := h.val
  simp only [Int.natAbs_zero, Int.natCast_zero, Int.mul_zero, Int.add_zero] at hv
  refine ⟨h.can rfl, ?_, fun hn hz => ?_⟩
  · unfold numV
    by_cases h0 : z < 0
    · rw [decide_eq_true h0, if_pos rfl]; omega
    · rw [decide_eq_false h0]
      simp only [Bool.false_eq_true, if_false]; omega
  · subst hz
    have := of_decide_eq_true hn
    simp only [valD] at hv
    omega
/-- The quotient and the rest that Go has, without their signs. -/
theorem tmod_abs (n : Int) : ((Int.tmod n dB).natAbs : Int) = (n.natAbs : Int) % dB := by
  have h : (Int.tmod n dB).natAbs = n.natAbs % 268435456 := by rw [Int.natAbs_tmod]; rfl
  rw [h]; exact Int.natCast_emod _ _
theorem tdiv_abs (n : Int) : ((Int.tdiv n dB).natAbs : Int) = (n.natAbs : Int) / dB := by
  have h : (Int.tdiv n dB).natAbs = n.natAbs / 268435456 := by rw [Int.natAbs_tdiv]; rfl
  rw [h]; exact Int.natCast_ediv _ _
/-- From above: the value of the digits from i on. -/
theorem back_step {l : List Int} {i : Nat} (h : i < l.length) : valD (l.drop i) = nth l i + dB * valD (l.drop (i + 1)) := by
  rw [List.drop_eq_getElem_cons h, valD, nth_in h]
theorem back_le {l : List Int} (h : Dg l) (i : Nat) : 0 ≤ valD (l.drop i) ∧ valD (l.drop i) ≤ valD l := by
  have h1 := (valD_bd (h.drop i)).1
  refine ⟨h1, ?_⟩
  by_cases hi : i < l.length
  · have e : valD l = valD (l.take i) + dB ^ i * valD (l.drop i) := by
      have := valD_app (l.take i) (l.drop i)
      rw [List.take_append_drop, List.length_take, Nat.min_eq_left (by omega)] at this
      exact this
    have h2 := (valD_bd (h.take i)).1
    have h3 := Int.mul_le_mul_of_nonneg_right (show 1 ≤ dB ^ i from dB_pow_pos i) h1
    rw [Int.one_mul] at h3
    omega
  · rw [List.drop_of_length_le (by omega)]
    exact (valD_bd h).1
end Go.Proofs.YtmomoeagnkjbiaaGreat

/- Contracts and plain laws, several texts in one: Nwd; OpG; Opn; Opp -/
import Derived.Test.YtjfpgpipbooilaaGreatProg
import Derived.WalkKit
import Derived.WalkSpells
import Derived.WalkLawsBesides
import Derived.Lib.Hide
import Derived.BigQuiet
import Derived.Deep.Slices
import Derived.Deep.Fields
import Derived.ChangeSame
import Derived.WideShapes
import Derived.ChangeShapes
import Derived.Lib.SmallJoins
import Derived.Test.YtjfpgpipbooilaaGreatVAA
import Derived.Test.YtjfpgpipbooilaaGreatVAB
import Derived.Test.YtjfpgpipbooilaaGreatVAX
import Derived.Test.YtjfpgpipbooilaaGreatVAY
import Derived.Test.YtjfpgpipbooilaaGreatVBJ
/- The reference's New in full. -/
namespace Go.Proofs.YtjfpgpipbooilaaGreat
open Go.RowKit Go.Shelf

def twR (ls : List StarV) (s : ByteArray) : Bool := isA s || decide (0 ≤ fndS ls s)
theorem isA_iff {s : ByteArray} : isA s = true ↔ s = ariesS := by
  rw [← nmB_iff]
  unfold isA nmB
  rw [aries_list]
theorem fndS_iff {ls : List StarV} {s : ByteArray} : decide (0 ≤ fndS ls s) = true ↔ ∃ x ∈ ls, x.s = s := by
  unfold fndS
  rw [idxR_any, List.any_eq_true]
  constructor
  · rintro ⟨x, hx, h⟩; exact ⟨x, hx, nmB_iff.1 h⟩
  · rintro ⟨x, hx, h⟩; exact ⟨x, hx, nmB_iff.2 h⟩
theorem twB_eq (lp : List PgV) (ls : List StarV) : twB lp ls = ((tkL lp).any (twR ls) || decide (0 ≤ fndS ls ariesS)) := by
  unfold twB
  rw [Bool.eq_iff_iff, Bool.or_eq_true, Bool.or_eq_true, Lib.containsS_iff, fndS_iff, List.any_eq_true, List.any_eq_true]
  constructor
  · rintro (h | ⟨x, hx, h⟩)
    · exact .inl ⟨ariesS, h, by unfold twR; rw [isA_iff.2 rfl]; rfl⟩
    · unfold twS at h
      rcases Bool.or_eq_true .. ▸ h with h | h
      · exact .inr ⟨x, hx, isA_iff.1 h⟩
      · refine .inl ⟨x.s, (Lib.containsS_iff _ _).1 h, ?_⟩
        unfold twR
        rw [fndS_iff.2 ⟨x, hx, rfl⟩, Bool.or_true]
  · rintro (⟨s, hs, h⟩ | ⟨x, hx, h⟩)
    · unfold twR at h
      rcases Bool.or_eq_true .. ▸ h with h | h
      · rw [isA_iff.1 h] at hs; exact .inl hs
      · obtain ⟨x, hx, e⟩ := fndS_iff.1 h
        refine .inr ⟨x, hx, ?_⟩
        unfold twS
        rw [(Lib.containsS_iff _ _).2 (by rw [e]; exact hs), Bool.or_true]
    · refine .inr ⟨x, hx, ?_⟩
      unfold twS
      rw [isA_iff.2 h]; rfl
open Classical in
noncomputable def newE (lp : List PgV) (ls : List StarV) : Int :=
  if 40 < lp.length then 4 else if badP lp = true ∨ catB ls = false then 1 else if ¬ OrdK lp lp.length then 17 else if twB lp ls = true then 10 else 0
theorem bad_yes {lp : List PgV} {i : Nat} {p : PgV} (h : lp[i]? = some p) (hb : pgB p = false) : badP lp = true := by
  unfold badP
  rw [List.any_eq_true]
  exact ⟨p, List.mem_of_getElem? h, by rw [hb]; rfl⟩
theorem bad_no {lp : List PgV} (h : ∀ (i : Nat) p, lp[i]? = some p → pgB p = true) : badP lp = false := by
  unfold badP
  rw [List.any_eq_false]
  intro p hp
  obtain ⟨i, hi⟩ := List.mem_iff_getElem?.1 hp
  rw [h i p hi]; decide
theorem newE_full {lp : List PgV} {ls : List StarV} (h : 40 < lp.length) : 4 = newE lp ls := by unfold newE; rw [if_pos h]
theorem newE_arg {lp : List PgV} {ls : List StarV} (h : lp.length ≤ 40) (k : badP lp = true ∨ catB ls = false) : 1 = newE lp ls := by unfold newE; rw [if_neg (by omega), if_pos k]
theorem newE_ord {lp : List PgV} {ls : List StarV} (h : lp.length ≤ 40) (k : badP lp = false) (c : catB ls = true) (o : ¬ OrdK lp lp.length) : 17 = newE lp ls := by unfold newE; rw [if_neg (by omega), if_neg (by rw [k, c]; simp), if_pos o]
theorem newE_tw {lp : List PgV} {ls : List StarV} (h : lp.length ≤ 40) (k : badP lp = false) (c : catB ls = true) (o : OrdK lp lp.length) (t : twB lp ls = true) : 10 = newE lp ls := by unfold newE; rw [if_neg (by omega), if_neg (by rw [k, c]; simp), if_neg (by simpa using o), if_pos t]
theorem newE_ok {lp : List PgV} {ls : List StarV} (h : lp.length ≤ 40) (k : badP lp = false) (c : catB ls = true) (o : OrdK lp lp.length) (t : twB lp ls = false) : 0 = newE lp ls := by unfold newE; rw [if_neg (by omega), if_neg (by rw [k, c]; simp), if_neg (by simpa using o), if_neg (by rw [t]; decide)]
theorem ordK_mono {lp : List PgV} {i j : Nat} (h : OrdK lp i) (hj : j ≤ i) : OrdK lp j := fun k p q hk => h k p q (by omega)
set_option maxHeartbeats 4000000 in
set_option maxRecDepth 100000 in
theorem ref17_New {P : Nat → Prop} (vp vs : Value) (lp : List PgV) (ls : List StarV) (w : World) (hp : PgsD P w vp lp) (hv : SlG stR w vs ls) :
    Calls Tryz.prog 25 #[vp, vs] w fun e w' => e = .returned (.int .i64 (newE lp ls)) ∧ ∃ d, w' = bw w d := by
  by_cases h40 : 40 < lp.length
  · have HE := Lib.hid (newE_full (ls := ls) h40)
    obtain ⟨a, c, rfl⟩ := pgs_form hp
    obtain ⟨q, hq⟩ : ∃ q, lp.length = q := ⟨_, rfl⟩
    rw [hq] at h40 ⊢
    have x1 : (40 : Int) < (q : Int) := by omega
    clear hp hq hv
    refine lay_start ?_
    go_enter Tryz.func25, Tryz.ntmps25
    go_wp2_with fail
    go_ret
    exact ⟨ret_int HE.out, lay_ex _ _⟩
  · have hle : lp.length ≤ 40 := by omega
    have HV := Lib.hid (fun L => ref16_Valid vs ls (lay w L) (hv.lay L))
    have HFa := Lib.hid (fun L => ref16_Find vs ls ariesS (lay w L) (hv.lay L))
    have HF := Lib.hid (fun s L => ref16_Find vs ls s (lay w L) (hv.lay L))
    have HEa := Lib.hid (fun k => newE_arg (ls := ls) hle k)
    have HEo := Lib.hid (fun k c o => newE_ord (ls := ls) hle k c o)
    have HEt := Lib.hid (fun k c o t => newE_tw (ls := ls) hle k c o t)
    have HEk := Lib.hid (fun k c o t => newE_ok (ls := ls) hle k c o t)
    have HTq := Lib.hid (twB_eq lp ls)
    have HT := Lib.hid (fun L h => ref17_Tracked vp vs lp (lay w L) (hp.lay L) h)
    have HPg := Lib.hid hp
    obtain ⟨a, c, rfl⟩ := pgs_form hp
    obtain ⟨sa, sc, rfl⟩ := hv.form
    obtain ⟨q, hq⟩ : ∃ q, lp.length = q := ⟨_, rfl⟩
    have HQ := Lib.hid hq
    rw [hq] at hle HT HPg ⊢
    have x1 : ¬ (40 : Int) < (q : Int) := by omega
    generalize newE lp ls = RES at *
    generalize ls.length = sn at *
    clear hp hq hv h40
    refine lay_start ?_
    go_enter Tryz.func25, Tryz.ntmps25
    go_wp2_with fail
    go_loopw [5] (fun v1 wr => ∃ (i : Nat) (d : Ext), i ≤ q ∧ v1 = .int .i64 (i : Int) ∧ wr = lay w [.inr d] ∧ ∀ (j : Nat) p, j < i → lp[j]? = some p → pgB p = true) (fun v1 _ => q - (intOf v1).toNat)
    case atStart => exact ⟨0, noExt _, Nat.zero_le _, rfl, (bw_noExt _).symm, fun j p hj => absurd hj (Nat.not_lt_zero j)⟩
    case round =>
      obtain ⟨i, d, hi, rfl, rfl, hA⟩ := hrel
      have HA := Lib.hid hA
      clear hA
      by_cases hlt : i < q
      · obtain ⟨p, hpp⟩ : ∃ p, lp[i]? = some p := ⟨_, List.getElem?_eq_getElem (by rw [HQ.out]; exact hlt)⟩
        obtain ⟨b, o, cap, hv1, hcc, hbb, -, hr⟩ := HPg.out.open (by rw [HQ.out]; omega)
        rw [HQ.out] at hv1 hcc
        cases hv1
        obtain ⟨x, hw, hD, c0, c1, c2, c3⟩ := hr i p hpp
        have HVp := Lib.hid (fun L => ref13_Valid x.y x.m x.d (.slice x.ta x.tn x.tc) p.ts (lay w L) (hD.ts.lay L))
        rw [hD.y, hD.m, hD.d, show (⟨p.y, p.m, p.d, p.ts⟩ : PgV) = p from rfl, ← hD.y, ← hD.m, ← hD.d] at HVp
        have HPp := Lib.hid hpp
        have x2 : (i : Int) < (q : Int) := by omega
        have x3 : (0 : Int) ≤ (i : Int) := by omega
        clear hr hD hw hpp
        obtain ⟨xy, xm, xd, ta, tn, tc⟩ := x
        dsimp only at c0 c1 c2 c3 HVp
        cases hb : pgB p
        · rw [hb] at HVp
          have HB := Lib.hid (HEa.out (.inl (bad_yes HPp.out hb)))
          clear hb
          go_wp2_with fail
          refine (HVp.out _).mono ?_
          rintro e w' ⟨rfl, d2, rfl⟩
          go_wp2_with fail
          go_ret
          exact ⟨ret_int HB.out, lay_ex _ _⟩
        · rw [hb] at HVp
          have HN : Hid (∀ (j : Nat) p, j < i + 1 → lp[j]? = some p → pgB p = true) := Lib.hid (fun j p' hj h => by
            by_cases e : j = i
            · subst e; rw [HPp.out] at h; cases h; exact hb
            · exact HA.out j p' (by omega) h)
          clear hb
          go_wp2_with fail
          refine (HVp.out _).mono ?_
          rintro e w' ⟨rfl, d2, rfl⟩
          go_wp2_with fail
          go_roundw
          case rel => exact ⟨i + 1, _, by omega, by go_num, Classical.choose_spec (lay_all w _), HN.out⟩
          case measure => simp [intOf]; omega
      · obtain rfl : i = q := by omega
        have HBn : Hid (badP lp = false) := Lib.hid (bad_no fun j p h => HA.out j p (by have := (List.getElem?_eq_some_iff.1 h).1; rw [HQ.out] at this; exact this) h)
        have HOk := Lib.hid (bad_all HBn.out)
        have HFw : Hid (Few lp) := Lib.hid ⟨by rw [HQ.out]; omega, fun p hp => by have := (HOk.out p hp).len; omega⟩
        have x2 : ¬ (i : Int) < (i : Int) := by omega
        clear HA
        cases hc : catB ls
        · rw [hc] at HV
          have HB := Lib.hid (HEa.out (.inr hc))
          clear hc
          go_wp2_with fail
          refine (HV.out _).mono ?_
          rintro e w' ⟨rfl, d2, rfl⟩
          go_wp2_with fail
          go_ret
          exact ⟨ret_int HB.out, lay_ex _ _⟩
        · rw [hc] at HV
          have HC := Lib.hid hc
          clear hc
          go_wp2_with fail
          refine (HV.out _).mono ?_
          rintro e w' ⟨rfl, d2, rfl⟩
          rw [lay_bw]
          go_wp2_with fail
          go_loopw [6] (fun v1 wr => ∃ (k : Nat) (d : Ext), k + 1 ≤ max i 1 ∧ v1 = .int .i64 ((k : Int) + 1) ∧ wr = lay w [.inr d] ∧ OrdK lp (k + 1)) (fun v1 _ => i - (intOf v1).toNat)
          case atStart => exact ⟨0, _, by omega, rfl, Classical.choose_spec (lay_all w _), fun u p q hu => absurd hu (by omega)⟩
          case round =>
            clear HV
            obtain ⟨k, d3, hk, rfl, rfl, hO⟩ := hrel
            have HO := Lib.hid hO
            clear hO
            by_cases hlt : k + 1 < i
            · obtain ⟨p, hpp⟩ : ∃ p, lp[k]? = some p := ⟨_, List.getElem?_eq_getElem (by rw [HQ.out]; omega)⟩
              obtain ⟨p2, hpp2⟩ : ∃ p2, lp[k + 1]? = some p2 := ⟨_, List.getElem?_eq_getElem (by rw [HQ.out]; omega)⟩
              obtain ⟨b, o, cap, hv1, hcc, hbb, -, hr⟩ := HPg.out.open (by rw [HQ.out]; omega)
              rw [HQ.out] at hv1 hcc
              cases hv1
              obtain ⟨x, hw, hD, c0, c1, c2, c3⟩ := hr k p hpp
              obtain ⟨y, hw2, hD2, e0, e1, e2, e3⟩ := hr (k + 1) p2 hpp2
              have hdx := (HOk.out p (List.mem_of_getElem? hpp)).dt
              have hdy := (HOk.out p2 (List.mem_of_getElem? hpp2)).dt
              rw [← hD.y, ← hD.m, ← hD.d] at hdx
              rw [← hD2.y, ← hD2.m, ← hD2.d] at hdy
              have HNx := Lib.hid (fun W => ref09_Number x.y x.m x.d W hdx)
              have HNy := Lib.hid (fun W => ref09_Number y.y y.m y.d W hdy)
              obtain ⟨N0, hN0⟩ : ∃ N0, numI x.y x.m x.d = N0 := ⟨_, rfl⟩
              obtain ⟨N1, hN1⟩ : ∃ N1, numI y.y y.m y.d = N1 := ⟨_, rfl⟩
              have hM0 : numI p.y p.m p.d = N0 := by rw [← hD.y, ← hD.m, ← hD.d, hN0]
              have hM1 : numI p2.y p2.m p2.d = N1 := by rw [← hD2.y, ← hD2.m, ← hD2.d, hN1]
              rw [hN0] at HNx
              rw [hN1] at HNy
              have HM0 := Lib.hid hM0
              have HM1 := Lib.hid hM1
              have HPp := Lib.hid hpp
              have HPp2 := Lib.hid hpp2
              have y1 : (k : Int) + 1 < (i : Int) := by omega
              have y2 : (k : Int) < (i : Int) := by omega
              have y3 : (0 : Int) ≤ (k : Int) := by omega
              have y4 : (0 : Int) ≤ (k : Int) + 1 := by omega
              have y5 : ((k : Int) + 1).toNat = k + 1 := by omega
              have y6 : IntKind.i64.wrap ((k : Int) + 1 - 1) = (k : Int) := by rw [IntWalk.i64_in _ (by omega)]; omega
              clear hr hD hw hD2 hw2 hpp hpp2 hN0 hN1 hM0 hM1 hdx hdy
              obtain ⟨xy, xm, xd, ta, tn, tc⟩ := x
              obtain ⟨yy, ym, yd, ua, un, uc⟩ := y
              dsimp only at c0 c1 c2 c3 e0 e1 e2 e3 HNx HNy
              by_cases hle2 : N1 ≤ N0
              · have HB : Hid (17 = RES) := Lib.hid (HEo.out HBn.out HC.out (fun h => by
                  have := h k p p2 (by rw [HQ.out]; omega) HPp.out HPp2.out
                  rw [HM0.out, HM1.out] at this
                  omega))
                go_wp2_with fail
                refine region_bw (by kernel_rfl) (by kernel_rfl) ?_
                repeat (go_big_quiet_step ((first | ((with_reducible refine bq (HNx.out _) ?_); exact (fun d => ⟨d, rfl⟩)) | ((with_reducible refine bq (HNx.out _) ?_); exact (fun d => lay_join _ _ _ d)) | ((with_reducible refine bq (HNy.out _) ?_); exact (fun d => ⟨d, rfl⟩)) | ((with_reducible refine bq (HNy.out _) ?_); exact (fun d => lay_join _ _ _ d)))))
                refine wpQuiet_nil ?_
                rintro w' ⟨d, rfl⟩
                rw [lay_bw]
                go_wp2_with fail
                go_ret
                exact ⟨ret_int HB.out, lay_ex _ _⟩
              · have hgt : N0 < N1 := by omega
                have HN : Hid (OrdK lp (k + 1 + 1)) := Lib.hid (fun u p' q' hu h1 h2 => by
                  by_cases huj : u = k
                  · subst huj
                    rw [HPp.out] at h1; cases h1
                    rw [HPp2.out] at h2; cases h2
                    rw [HM0.out, HM1.out]; exact hgt
                  · exact HO.out u p' q' (by omega) h1 h2)
                go_wp2_with fail
                refine region_bw (by kernel_rfl) (by kernel_rfl) ?_
                repeat (go_big_quiet_step ((first | ((with_reducible refine bq (HNx.out _) ?_); exact (fun d => ⟨d, rfl⟩)) | ((with_reducible refine bq (HNx.out _) ?_); exact (fun d => lay_join _ _ _ d)) | ((with_reducible refine bq (HNy.out _) ?_); exact (fun d => ⟨d, rfl⟩)) | ((with_reducible refine bq (HNy.out _) ?_); exact (fun d => lay_join _ _ _ d)))))
                refine wpQuiet_nil ?_
                rintro w' ⟨d, rfl⟩
                rw [lay_bw]
                go_wp2_with fail
                go_roundw
                case rel => exact ⟨k + 1, _, by omega, by go_num, Classical.choose_spec (lay_all w _), HN.out⟩
                case measure => simp [intOf]; omega
            · have HOr : Hid (OrdK lp lp.length) := Lib.hid (ordK_mono HO.out (by rw [HQ.out]; omega))
              have y1 : ¬ (k : Int) + 1 < (i : Int) := by omega
              clear HO
              go_wp2_with fail
              refine (HT.out _ HFw.out).mono ?_
              rintro e w' ⟨ta, tc, d4, rfl, rfl, hTn, hTs⟩
              rw [lay_bw] at hTs ⊢
              have HTs := Lib.hid hTs
              clear hTs hTn
              obtain ⟨T, hT⟩ : ∃ T, tkL lp = T := ⟨_, rfl⟩
              rw [hT] at HTs HTq ⊢
              obtain ⟨n, hn⟩ : ∃ n, T.length = n := ⟨_, rfl⟩
              have HNn := Lib.hid hn
              have hTl : n ≤ 9223372036854775807 := by obtain ⟨_, _, _, h, _⟩ := HTs.out; omega
              rw [hn] at HTs ⊢
              clear hT hn
              go_wp2_with fail
              go_loopw [9] (fun v1 wr => ∃ (j : Nat) (d : Ext), j ≤ n ∧ v1 = .int .i64 (j : Int) ∧ wr = lay w [.inr d] ∧ SlG strR (lay w [.inr d]) (.slice ta n tc) T ∧ ∀ (u : Nat) s, u < j → T[u]? = some s → twR ls s = false) (fun v1 _ => n - (intOf v1).toNat)
              case atStart => exact ⟨0, _, Nat.zero_le _, rfl, Classical.choose_spec (lay_all w _), by rw [← Classical.choose_spec (lay_all w [.inr d4, .inl (.cells #[.slice a i c, .slice sa sn sc] 33 (0, 0)), .inr d3])]; exact HTs.out, fun u s hu => absurd hu (Nat.not_lt_zero u)⟩
              case round =>
                clear HTs
                obtain ⟨j, d5, hj, rfl, rfl, hS, hA⟩ := hrel
                have HS := Lib.hid hS
                have HA := Lib.hid hA
                clear hS hA
                by_cases hjn : j < n
                · obtain ⟨s, hs⟩ : ∃ s, T[j]? = some s := ⟨_, List.getElem?_eq_getElem (by rw [HNn.out]; exact hjn)⟩
                  obtain ⟨bt, ot, ct, hv1, hcc, hbb, hr⟩ := HS.out.open (by rw [HNn.out]; omega)
                  rw [HNn.out] at hv1 hcc
                  cases hv1
                  have e0 : (lay w [.inr d5]).cell? ⟨bt, ot + j, none⟩ = some (.string s) := by
                    have := hr j s hs 0 _ rfl
                    simpa [strR] using this
                  have HFs := Lib.hid (fun L => HF.out s L)
                  have HSs := Lib.hid hs
                  have htw : twR ls s = (isA s || decide (0 ≤ fndS ls s)) := rfl
                  have ho : isA s = (s.toList == [65, 114, 105, 101, 115]) := rfl
                  have HMem : Hid (twR ls s = true → T.any (twR ls) = true) := Lib.hid (fun h => List.any_eq_true.2 ⟨s, List.mem_of_getElem? hs, h⟩)
                  unfold IdxPost at HFs
                  have z1 : (j : Int) < (n : Int) := by omega
                  have z0 : (0 : Int) ≤ (j : Int) := by omega
                  generalize fndS ls s = F at *
                  clear hr hs
                  cases hA2 : isA s
                  · rw [hA2] at ho htw
                    have t1 := ho.symm
                    clear ho
                    by_cases hF0 : 0 ≤ F
                    · have HB : Hid (10 = RES) := Lib.hid (HEt.out HBn.out HC.out HOr.out (by rw [HTq.out, HMem.out (by rw [htw, decide_eq_true hF0]; rfl)]; rfl))
                      clear htw hA2
                      go_wp2_with (go_at_call 70; refine (HFs.out _).mono ?_; rintro e w' ⟨rfl, d6, rfl⟩)
                      go_ret
                      exact ⟨ret_int HB.out, lay_ex _ _⟩
                    · have HN : Hid (∀ (u : Nat) s, u < j + 1 → T[u]? = some s → twR ls s = false) := Lib.hid (fun u s' hu h => by
                        by_cases e : u = j
                        · subst e; rw [HSs.out] at h; cases h; rw [htw, decide_eq_false hF0]; rfl
                        · exact HA.out u s' (by omega) h)
                      clear htw hA2
                      go_wp2_with (go_at_call 70; refine (HFs.out _).mono ?_; rintro e w' ⟨rfl, d6, rfl⟩)
                      go_roundw
                      case rel => exact ⟨j + 1, _, by omega, by go_num, Classical.choose_spec (lay_all w _), by rw [← Classical.choose_spec (lay_all w [.inr d6, .inr d5])]; exact HS.out.lay [.inr d6], HN.out⟩
                      case measure => simp [intOf]; omega
                  · rw [hA2] at ho htw
                    have t1 := ho.symm
                    have HB : Hid (10 = RES) := Lib.hid (HEt.out HBn.out HC.out HOr.out (by rw [HTq.out, HMem.out (by rw [htw]; rfl)]; rfl))
                    clear ho htw hA2
                    go_wp2_with (go_at_call 70; refine (HFs.out _).mono ?_; rintro e w' ⟨rfl, d6, rfl⟩)
                    go_ret
                    exact ⟨ret_int HB.out, lay_ex _ _⟩
                · obtain rfl : j = n := by omega
                  have HAny : Hid (T.any (twR ls) = false) := Lib.hid (by
                    rw [List.any_eq_false]
                    intro s hs
                    obtain ⟨u, hu⟩ := List.mem_iff_getElem?.1 hs
                    rw [HA.out u s (by have := (List.getElem?_eq_some_iff.1 hu).1; rw [HNn.out] at this; exact this) hu]; decide)
                  rw [HAny.out, Bool.false_or] at HTq
                  unfold IdxPost at HFa
                  have z1 : ¬ (j : Int) < (j : Int) := by omega
                  generalize fndS ls ariesS = F at *
                  clear HA HS
                  by_cases hF0 : 0 ≤ F
                  · have HB : Hid (10 = RES) := Lib.hid (HEt.out HBn.out HC.out HOr.out (by rw [HTq.out, decide_eq_true hF0]))
                    go_wp2_with (go_at_call 70; refine (HFa.out _).mono ?_; rintro e w' ⟨rfl, d6, rfl⟩)
                    go_ret
                    exact ⟨ret_int HB.out, lay_ex _ _⟩
                  · have HB : Hid (0 = RES) := Lib.hid (HEk.out HBn.out HC.out HOr.out (by rw [HTq.out, decide_eq_false hF0]))
                    go_wp2_with (go_at_call 70; refine (HFa.out _).mono ?_; rintro e w' ⟨rfl, d6, rfl⟩)
                    go_ret
                    exact ⟨ret_int HB.out, lay_ex _ _⟩
end Go.Proofs.YtjfpgpipbooilaaGreat
/- A slice of records off an argument: whatever the record is. -/
namespace Go.Proofs.YtjfpgpipbooilaaGreat
open Go.RowKit

theorem addO_block (a : Addr) (n : Nat) : (a.add n).block = a.block := by
  unfold Addr.add; split <;> rfl
theorem addO_none {a : Addr} (h : a.spot = none) (n : Nat) : a.add n = ⟨a.block, a.off + n, none⟩ := by
  unfold Addr.add
  split
  · rename_i h0
    have : n = 0 := by simpa using h0
    subst this
    cases a; simp_all
  · rfl
section
variable {H : Type} {enc : TypeId × Value → H} {α : Type} {R : RecT α} {P : Program}
theorem slG_of (hR : RecOk R) (ht : P.underlying R.S = some (.slice R.E)) (hC : P.cellsOf R.E = R.k) {w : World} {Q : α → Prop} {fuel : Nat} {v : Value} {x : DataW H × List MemPlace}
    (hel : ∀ n cs y, DataW.trod enc P w 0 (fun _ => true) true n R.E cs = some y → cs.length = R.k → ∃ z, cs = R.enc z ∧ R.wf z ∧ Q z)
    (hf : DataW.trod enc P w 0 (fun _ => true) true fuel R.S [v] = some x) : ∃ l, SlG R w v l ∧ ∀ z ∈ l, Q z := by
  have hM : maxLen = 9223372036854775807 := by decide
  rcases Go.Deep.open_slice ht hf with ⟨hcs, _⟩ | ⟨a', len', cap', m, n, D, Pl, hcs, hb, hl, hm, hmm, hx, hel'⟩
  · obtain rfl : v = .slice none 0 0 := by simpa using hcs
    exact ⟨[], SlG.nil R w, fun z hz => absurd hz List.not_mem_nil⟩
  · obtain rfl : v = .slice (some a') len' cap' := by simpa using hcs
    simp only [if_true] at hmm
    subst hmm
    have hex : ∀ i : Nat, i < m → ∃ z : α, R.wf z ∧ Q z ∧ (∀ (j : Nat) u, (R.enc z)[j]? = some u → w.cell? ((a'.add (i * R.k)).add j) = some u) ∧ ((a'.add (i * R.k)).block < w.heap.size) := fun i him => by
      obtain ⟨cs', hc', ht'⟩ := hel' i him
      rw [hC] at hc'
      have hblk := World.cells?_block hc' hR.pos
      obtain ⟨_, hcl, hat⟩ := World.cells?_some hc'
      obtain ⟨z, rfl, hz, hq⟩ := hel _ _ _ ht' hcl
      refine ⟨z, hz, hq, fun j u hu => ?_, hblk⟩
      have hj : j < R.k := by rw [← hcl]; exact (List.getElem?_eq_some_iff.1 hu).1
      rw [hat j hj, hu]
    by_cases hz : len' = 0
    · subst hz
      exact ⟨[], slG_none (by omega), fun z hz => absurd hz List.not_mem_nil⟩
    · obtain ⟨z0, _, _, h0, hb0⟩ := hex 0 (by omega)
      have hspot : a'.spot = none := by
        have hlen := hR.len z0
        have hp := hR.pos
        obtain ⟨u, hu⟩ : ∃ u, (R.enc z0)[0]? = some u := ⟨_, List.getElem?_eq_getElem (by omega)⟩
        have := h0 0 u hu
        unfold World.cell? at this
        cases hs : a'.spot
        · rfl
        · simp [Addr.add, hs] at this
          try (split at this <;> simp at this)
      have hbl : a'.block < w.heap.size := by simpa [addO_block] using hb0
      have : Nonempty α := ⟨z0⟩
      have hch : ∃ f : Nat → α, ∀ i, i < len' → R.wf (f i) ∧ Q (f i) ∧ ∀ (j : Nat) u, (R.enc (f i))[j]? = some u → w.cell? ⟨a'.block, a'.off + (i * R.k + j), none⟩ = some u := by
        have : ∀ i, ∃ z : α, i < len' → R.wf z ∧ Q z ∧ ∀ (j : Nat) u, (R.enc z)[j]? = some u → w.cell? ⟨a'.block, a'.off + (i * R.k + j), none⟩ = some u := fun i => by
          by_cases hi : i < len'
          · obtain ⟨z, k1, k2, k3, _⟩ := hex i (by omega)
            refine ⟨z, fun _ => ⟨k1, k2, fun j u hu => ?_⟩⟩
            have := k3 j u hu
            rw [addO_none hspot, addO_none (by rfl)] at this
            simpa [Nat.add_assoc] using this
          · exact ⟨z0, fun h => absurd h hi⟩
        exact ⟨fun i => Classical.choose (this i), fun i hi => Classical.choose_spec (this i) hi⟩
      obtain ⟨f, hF⟩ := hch
      have hlen : ((List.range len').map f).length = len' := by simp
      refine ⟨(List.range len').map f, ⟨some a', m, by rw [hlen], by rw [hlen]; omega, fun z hz => ?_, fun _ => ⟨a'.block, a'.off, by cases a'; simp_all, hbl, fun i z hz j u hu => ?_⟩⟩, fun z hz => ?_⟩
      · obtain ⟨i, hi, rfl⟩ := List.mem_map.1 hz
        exact (hF i (List.mem_range.1 hi)).1
      · have hi : i < len' := by have := (List.getElem?_eq_some_iff.1 hz).1; simpa using this
        have : z = f i := by
          rw [List.getElem?_map, List.getElem?_range hi] at hz
          simpa using hz.symm
        subst this
        exact (hF i hi).2.2 j u hu
      · obtain ⟨i, hi, rfl⟩ := List.mem_map.1 hz
        exact (hF i (List.mem_range.1 hi)).2.1
theorem slG_arg (hR : RecOk R) (ht : P.underlying R.S = some (.slice R.E)) (hC : P.cellsOf R.E = R.k) {w : World} {r : Reach} {b0 : Nat} {Q : α → Prop} {v : Value} {d : DataW H} {ps : List MemPlace}
    (hel : ∀ n cs y, DataW.trod enc P w 0 (fun _ => true) true n R.E cs = some y → cs.length = R.k → ∃ z, cs = R.enc z ∧ R.wf z ∧ Q z)
    (hv : Value.okWide P w r b0 R.S v) (h : DataW.Trod enc P w 0 (fun _ => true) true R.S v d ps) : ∃ l, SlG R w v l ∧ ∀ z ∈ l, Q z := by
  obtain ⟨a, len, cap, rfl⟩ := Go.WideShapes.okWide_slice ht hv
  obtain ⟨fuel, hf⟩ := h
  exact slG_of hR ht hC hel (by simpa [Value.cells] using hf)

end
end Go.Proofs.YtjfpgpipbooilaaGreat
/- Opening rows of records off an argument: a slice reads as a list of records, each with what its cells say. -/
namespace Go.Proofs.YtjfpgpipbooilaaGreat
open Go.RowKit

section
variable {H : Type} {enc : TypeId × Value → H} {P : Program}

open Go.ChangeShapes Go.WideShapes Go.Deep in
theorem st_elem {w : World} {t ts ti : TypeId} {f0 f1 f2 f3 : Field} (hs : P.underlying t = some (.struct #[f0, f1, f2, f3])) (hone : oneCellFields P #[f0, f1, f2, f3] = true)
    (ht : f0.type = ts ∧ f1.type = ti ∧ f2.type = ti ∧ f3.type = ti) (hS : P.underlying ts = some .string) (hI : P.underlying ti = some (.int .i64))
    (n : Nat) (cs : List Value) (y : DataW H × List MemPlace) (hf : DataW.trod enc P w 0 (fun _ => true) true n t cs = some y) (hl : cs.length = 4) : ∃ z, cs = stR.enc z ∧ stR.wf z ∧ True := by
  match cs, hl with
  | [c0, c1, c2, c3], _ =>
    obtain ⟨xs, m, _, hx, _, hlen, hg⟩ := DataW.trod_struct hs hf
    obtain ⟨o0, k0⟩ := hone_of hone 0 f0 rfl
    obtain ⟨o1, k1⟩ := hone_of hone 1 f1 rfl
    obtain ⟨o2, k2⟩ := hone_of hone 2 f2 rfl
    obtain ⟨o3, k3⟩ := hone_of hone 3 f3 rfl
    match xs, hlen with
    | [y0, y1, y2, y3], _ =>
      have e0 : DataW.trod enc P w 0 (fun _ => true) true m f0.type [c0] = some y0 := by simpa [Value.cells, o0, k0] using hg 0 f0 rfl
      have e1 : DataW.trod enc P w 0 (fun _ => true) true m f1.type [c1] = some y1 := by simpa [Value.cells, o1, k1] using hg 1 f1 rfl
      have e2 : DataW.trod enc P w 0 (fun _ => true) true m f2.type [c2] = some y2 := by simpa [Value.cells, o2, k2] using hg 2 f2 rfl
      have e3 : DataW.trod enc P w 0 (fun _ => true) true m f3.type [c3] = some y3 := by simpa [Value.cells, o3, k3] using hg 3 f3 rfl
      obtain ⟨t0, t1, t2, t3⟩ := ht
      rw [t0] at e0; rw [t1] at e1; rw [t2] at e2; rw [t3] at e3
      obtain ⟨s, q0, _, ws⟩ := DataW.trod_string hS e0
      obtain ⟨x1, q1, _, w1⟩ := DataW.trod_int hI e1
      obtain ⟨x2, q2, _, w2⟩ := DataW.trod_int hI e2
      obtain ⟨x3, q3, _, w3⟩ := DataW.trod_int hI e3
      simp only [List.cons.injEq, and_true] at q0 q1 q2 q3
      subst q0 q1 q2 q3
      exact ⟨⟨s, x1, x2, x3⟩, rfl, ⟨ws, w1, w2, w3⟩, trivial⟩
end
set_option maxRecDepth 100000 in
theorem st_arg {H : Type} {enc : TypeId × Value → H} {w : World} {r : Reach} {b0 : Nat} {v : Value} {d : DataW H} {ps : List MemPlace} (hv : Value.okWide Tryz.prog w r b0 23 v) (h : DataW.Trod enc Tryz.prog w 0 (fun _ => true) true 23 v d ps) : ∃ l, SlG stR w v l := by
  have hC : Tryz.prog.cellsOf stR.E = stR.k := by kernel_rfl
  have hel : ∀ n cs y, DataW.trod enc Tryz.prog w 0 (fun _ => true) true n stR.E cs = some y → cs.length = stR.k → ∃ z, cs = stR.enc z ∧ stR.wf z ∧ True :=
    fun n cs y => st_elem (ts := 9) (ti := 3) Tryz.underlying75 (by kernel_rfl) ⟨rfl, rfl, rfl, rfl⟩ Tryz.underlying9 Tryz.underlying3 n cs y
  obtain ⟨l, hl, _⟩ := slG_arg (Q := fun _ => True) stOk stOk.und hC hel hv h
  exact ⟨l, hl⟩
end Go.Proofs.YtjfpgpipbooilaaGreat
/- Opening pages off an argument: tracks, pages, rows of both, each with what lies in memory. -/
namespace Go.Proofs.YtjfpgpipbooilaaGreat
open Go.RowKit

section
variable {H : Type} {enc : TypeId × Value → H} {P : Program}
theorem blk_true (v : Value) : Blk (fun _ => True) v := fun _ _ _ _ _ _ => trivial
theorem list_of_fn {α β : Type} (ls : List α) (Q : α → β → Prop) (h : ∀ z ∈ ls, ∃ t, Q z t) : ∃ l : List β, ls.length = l.length ∧ ∀ (i : Nat) x t, ls[i]? = some x → l[i]? = some t → Q x t := by
  induction ls with
  | nil => exact ⟨[], rfl, fun i x t hx => by simp at hx⟩
  | cons z ls ih =>
    obtain ⟨t, ht⟩ := h z (List.mem_cons_self ..)
    obtain ⟨l, hl, hq⟩ := ih fun y hy => h y (List.mem_cons_of_mem _ hy)
    refine ⟨t :: l, by simp [hl], fun i x u hx hu => ?_⟩
    cases i with
    | zero => simp only [List.getElem?_cons_zero, Option.some.injEq] at hx hu; subst hx hu; exact ht
    | succ i => rw [List.getElem?_cons_succ] at hx hu; exact hq i x u hx hu
open Go.ChangeShapes Go.WideShapes Go.Deep in
theorem tk_elem {w : World} {t ts ti tt te : TypeId} {f0 f1 f2 f3 f4 f5 : Field} (hs : P.underlying t = some (.struct #[f0, f1, f2, f3, f4, f5])) (hone : oneCellFields P #[f0, f1, f2, f3, f4, f5] = true)
    (ht : f0.type = ts ∧ f1.type = tt ∧ f2.type = tt ∧ f3.type = ti ∧ f4.type = ti ∧ f5.type = ti)
    (hS : P.underlying ts = some .string) (hI : P.underlying ti = some (.int .i64)) (hT : P.underlying tt = some (.slice te)) (hE : P.underlying te = some (.int .i64)) (hc1 : P.cellsOf te = 1)
    (n : Nat) (cs : List Value) (y : DataW H × List MemPlace) (hf : DataW.trod enc P w 0 (fun _ => true) true n t cs = some y) (hl : cs.length = 6) : ∃ z, cs = tkR.enc z ∧ tkR.wf z ∧ ∃ t, TkD (fun _ => True) w z t := by
  match cs, hl with
  | [c0, c1, c2, c3, c4, c5], _ =>
    obtain ⟨xs, m, _, hx, _, hlen, hg⟩ := DataW.trod_struct hs hf
    obtain ⟨o0, k0⟩ := hone_of hone 0 f0 rfl
    obtain ⟨o1, k1⟩ := hone_of hone 1 f1 rfl
    obtain ⟨o2, k2⟩ := hone_of hone 2 f2 rfl
    obtain ⟨o3, k3⟩ := hone_of hone 3 f3 rfl
    obtain ⟨o4, k4⟩ := hone_of hone 4 f4 rfl
    obtain ⟨o5, k5⟩ := hone_of hone 5 f5 rfl
    match xs, hlen with
    | [y0, y1, y2, y3, y4, y5], _ =>
      have e0 : DataW.trod enc P w 0 (fun _ => true) true m f0.type [c0] = some y0 := by simpa [Value.cells, o0, k0] using hg 0 f0 rfl
      have e1 : DataW.trod enc P w 0 (fun _ => true) true m f1.type [c1] = some y1 := by simpa [Value.cells, o1, k1] using hg 1 f1 rfl
      have e2 : DataW.trod enc P w 0 (fun _ => true) true m f2.type [c2] = some y2 := by simpa [Value.cells, o2, k2] using hg 2 f2 rfl
      have e3 : DataW.trod enc P w 0 (fun _ => true) true m f3.type [c3] = some y3 := by simpa [Value.cells, o3, k3] using hg 3 f3 rfl
      have e4 : DataW.trod enc P w 0 (fun _ => true) true m f4.type [c4] = some y4 := by simpa [Value.cells, o4, k4] using hg 4 f4 rfl
      have e5 : DataW.trod enc P w 0 (fun _ => true) true m f5.type [c5] = some y5 := by simpa [Value.cells, o5, k5] using hg 5 f5 rfl
      obtain ⟨t0, t1, t2, t3, t4, t5⟩ := ht
      rw [t0] at e0; rw [t1] at e1; rw [t2] at e2; rw [t3] at e3; rw [t4] at e4; rw [t5] at e5
      obtain ⟨s, q0, _, ws⟩ := DataW.trod_string hS e0
      obtain ⟨lg, hlg⟩ := sl_of hT hE hc1 e1
      obtain ⟨ld, hld⟩ := sl_of hT hE hc1 e2
      obtain ⟨x3, q3, _, w3⟩ := DataW.trod_int hI e3
      obtain ⟨x4, q4, _, w4⟩ := DataW.trod_int hI e4
      obtain ⟨x5, q5, _, w5⟩ := DataW.trod_int hI e5
      simp only [List.cons.injEq, and_true] at q0 q3 q4 q5
      subst q0 q3 q4 q5
      obtain ⟨ga, gc, rfl, g2⟩ := id hlg
      obtain ⟨da, dc, rfl, d2⟩ := id hld
      exact ⟨⟨s, ga, lg.length, gc, da, ld.length, dc, x3, x4, x5⟩, rfl, ⟨ws, w3, w4, w5⟩, ⟨s, lg, ld, x3, x4, x5⟩, ⟨rfl, ⟨hlg, blk_true _⟩, ⟨hld, blk_true _⟩, rfl, rfl, rfl⟩⟩
open Go.ChangeShapes Go.WideShapes Go.Deep in
theorem pg_elem {w : World} {t td tt ti : TypeId} {f0 f1 g0 g1 g2 : Field} (hs : P.underlying t = some (.struct #[f0, f1])) (h0 : f0.type = td ∧ f0.offset = 0 ∧ P.cellsOf td = 3) (h1 : f1.type = tt ∧ f1.offset = 3 ∧ P.cellsOf tt = 1)
    (hd : P.underlying td = some (.struct #[g0, g1, g2])) (hone : oneCellFields P #[g0, g1, g2] = true) (hdt : g0.type = ti ∧ g1.type = ti ∧ g2.type = ti) (hI : P.underlying ti = some (.int .i64))
    (hts : ∀ n v y, DataW.trod enc P w 0 (fun _ => true) true n tt [v] = some y → ∃ l, TksD (fun _ => True) w v l)
    (n : Nat) (cs : List Value) (y : DataW H × List MemPlace) (hf : DataW.trod enc P w 0 (fun _ => true) true n t cs = some y) (hl : cs.length = 4) : ∃ z, cs = pgR.enc z ∧ pgR.wf z ∧ ∃ p, PgD (fun _ => True) w z p := by
  match cs, hl with
  | [c0, c1, c2, c3], _ =>
    obtain ⟨y0, y1, m, hx, _, e0, e1⟩ := trod_struct2 hs hf
    rw [h0.1, h0.2.1, h0.2.2] at e0
    rw [h1.1, h1.2.1, h1.2.2] at e1
    simp only [List.drop_zero, List.take_succ_cons, List.take_zero] at e0
    simp only [List.drop_succ_cons, List.drop_zero, List.take_succ_cons, List.take_zero] at e1
    obtain ⟨l, hl⟩ := hts _ _ _ e1
    obtain ⟨z0, z1, z2, m2, hx2, _, k0, k1, k2⟩ := trod_struct3 hd e0
    obtain ⟨o0, q0⟩ := hone_of hone 0 g0 rfl
    obtain ⟨o1, q1⟩ := hone_of hone 1 g1 rfl
    obtain ⟨o2, q2⟩ := hone_of hone 2 g2 rfl
    rw [o0, q0, hdt.1] at k0
    rw [o1, q1, hdt.2.1] at k1
    rw [o2, q2, hdt.2.2] at k2
    simp only [List.drop_zero, List.drop_succ_cons, List.take_succ_cons, List.take_zero] at k0 k1 k2
    obtain ⟨x0, u0, _, w0⟩ := DataW.trod_int hI k0
    obtain ⟨x1, u1, _, w1⟩ := DataW.trod_int hI k1
    obtain ⟨x2, u2, _, w2⟩ := DataW.trod_int hI k2
    simp only [List.cons.injEq, and_true] at u0 u1 u2
    subst u0 u1 u2
    obtain ⟨ls, hls⟩ := id hl
    obtain ⟨a, c, rfl⟩ := hls.1.form
    exact ⟨⟨x0, x1, x2, a, ls.length, c⟩, rfl, ⟨w0, w1, w2⟩, ⟨x0, x1, x2, l⟩, ⟨rfl, rfl, rfl, hl⟩⟩
end
theorem tk_elemI {H : Type} {enc : TypeId × Value → H} {w : World} (n : Nat) (cs : List Value) (y : DataW H × List MemPlace) (hf : DataW.trod enc Tryz.prog w 0 (fun _ => true) true n 122 cs = some y) (hl : cs.length = 6) : ∃ z, cs = tkR.enc z ∧ tkR.wf z ∧ ∃ t, TkD (fun _ => True) w z t :=
  tk_elem (ts := 9) (ti := 3) (tt := 89) (te := 3) Tryz.underlying122 (by kernel_rfl) ⟨rfl, rfl, rfl, rfl, rfl, rfl⟩ Tryz.underlying9 Tryz.underlying3 Tryz.underlying89 Tryz.underlying3 (by kernel_rfl) n cs y hf hl
theorem tks_elemI {H : Type} {enc : TypeId × Value → H} {w : World} (n : Nat) (v : Value) (y : DataW H × List MemPlace) (hf : DataW.trod enc Tryz.prog w 0 (fun _ => true) true n 110 [v] = some y) : ∃ l, TksD (fun _ => True) w v l := by
  have hC : Tryz.prog.cellsOf tkR.E = tkR.k := by kernel_rfl
  obtain ⟨ls, h1, h2⟩ := slG_of (Q := fun z => ∃ t, TkD (fun _ => True) w z t) tkOk tkOk.und hC (fun n cs y h hl => tk_elemI n cs y h hl) hf
  obtain ⟨l, hl, hq⟩ := list_of_fn ls _ h2
  exact ⟨l, ls, h1, blk_true _, hl, hq⟩
theorem pg_elemI {H : Type} {enc : TypeId × Value → H} {w : World} (n : Nat) (cs : List Value) (y : DataW H × List MemPlace) (hf : DataW.trod enc Tryz.prog w 0 (fun _ => true) true n 112 cs = some y) (hl : cs.length = 4) : ∃ z, cs = pgR.enc z ∧ pgR.wf z ∧ ∃ t, PgD (fun _ => True) w z t :=
  pg_elem (td := 109) (tt := 110) (ti := 3) Tryz.underlying112 ⟨rfl, rfl, by kernel_rfl⟩ ⟨rfl, rfl, by kernel_rfl⟩ Tryz.underlying109 (by kernel_rfl) ⟨rfl, rfl, rfl⟩ Tryz.underlying3 (fun n v y h => tks_elemI n v y h) n cs y hf hl
def InB (w : World) (b : Nat) : Prop := b < w.heap.size
set_option maxRecDepth 100000 in
theorem pgs_arg {H : Type} {enc : TypeId × Value → H} {w : World} {r : Reach} {b0 : Nat} {v : Value} {d : DataW H} {ps : List MemPlace} (hv : Value.okWide Tryz.prog w r b0 22 v) (h : DataW.Trod enc Tryz.prog w 0 (fun _ => true) true 22 v d ps) : ∃ l, PgsD (InB w) w v l := by
  have hC : Tryz.prog.cellsOf pgR.E = pgR.k := by kernel_rfl
  obtain ⟨ls, h1, h2⟩ := slG_arg (Q := fun z => ∃ t, PgD (fun _ => True) w z t) pgOk pgOk.und hC (fun n cs y h hl => pg_elemI n cs y h hl) hv h
  obtain ⟨l, hl, hq⟩ := list_of_fn ls _ h2
  have : PgsD (fun _ => True) w v l := ⟨ls, h1, blk_true _, hl, hq⟩
  exact ⟨l, this.bound.mono fun b hb => hb.2⟩
end Go.Proofs.YtjfpgpipbooilaaGreat

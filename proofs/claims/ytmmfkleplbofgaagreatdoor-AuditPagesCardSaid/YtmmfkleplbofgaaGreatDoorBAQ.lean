/- Contracts and plain laws, several texts in one: Ap4 -/
import Derived.Test.YtmmfkleplbofgaaGreatDoorProg
import Derived.WalkKit
import Derived.WalkSpells
import Derived.WalkLawsBesides
import Derived.Lib.Hide
import Derived.BigQuiet
import Derived.Test.YtmmfkleplbofgaaGreatDoorBAA
import Derived.Test.YtmmfkleplbofgaaGreatDoorBAB
import Derived.Test.YtmmfkleplbofgaaGreatDoorBAI
import Derived.Test.YtmmfkleplbofgaaGreatDoorBAJ
import Derived.Test.YtmmfkleplbofgaaGreatDoorBAO
import Derived.Test.YtmmfkleplbofgaaGreatDoorBAP
/- The reference's Page. -/
namespace Go.Proofs.YtmmfkleplbofgaaGreatDoor
open Go.RowKit Go.Maps

theorem OwG.nn {α : Type} {R : RecT α} {w : World} {base : Nat} {A : Option Addr} {n c : Nat} {l : List α} (h : OwG R w base (.slice A n c) l) (hA : A = none) : c = 0 := by
  subst hA
  rcases h.1.2 with ⟨e, _⟩ | ⟨g, cap, cur, e, _⟩
  · simp only [Value.slice.injEq] at e; exact e.2.2
  · simp only [Value.slice.injEq] at e; exact absurd e.1 (by simp)
set_option maxHeartbeats 4000000 in
set_option maxRecDepth 100000 in
theorem ref_Page_no {P : Nat → Prop} (y m dy : Int) (v : Value) (l : List TrkV) (w : World) (hv : TksD P w v l) (hp : pgB ⟨y, m, dy, l⟩ = false) :
    Calls Tryz.prog 8 #[.agg #[.int .i64 y, .int .i64 m, .int .i64 dy, v]] w (PgE w 1 []) := by
  have HV := Lib.hid (fun W (h : TksD P W v l) => ref13_Valid y m dy v l W h)
  have HT := Lib.hid hv
  rw [hp] at HV
  obtain ⟨a, c, rfl⟩ := hv.form
  clear hv
  generalize l.length = n at *
  refine lay_start ?_
  go_enter Tryz.func8, Tryz.ntmps8
  go_wp2_with (go_at_call 10; refine (HV.out _ (HT.out.lay _)).mono ?_; rintro e w' ⟨rfl, e1, rfl⟩; rw [lay_bw])
  obtain ⟨z, hz⟩ := lay_ex w [.inr e1, .inl (.cells #[.int .i64 y, .int .i64 m, .int .i64 dy, .slice a n c] 26 (0, 0))]
  exact bodyPost_ret (v := .tuple #[.slice none 0 0, .int .i64 1]) (by simp [results, Tryz.results8, go_sem]) rfl ⟨_, z, rfl, hz, SlG.nil _ _⟩
set_option maxHeartbeats 4000000 in
set_option maxRecDepth 100000 in
theorem ref_Page_nil {P : Nat → Prop} (y m dy : Int) (v : Value) (w : World) (hv : TksD P w v []) (hp : pgB ⟨y, m, dy, []⟩ = true) :
    Calls Tryz.prog 8 #[.agg #[.int .i64 y, .int .i64 m, .int .i64 dy, v]] w (PgE w 0 []) := by
  have HV := Lib.hid (fun W (h : TksD P W v []) => ref13_Valid y m dy v [] W h)
  have HT := Lib.hid hv
  rw [hp] at HV
  obtain ⟨a, c, rfl⟩ := hv.form
  clear hv
  refine lay_start ?_
  go_enter Tryz.func8, Tryz.ntmps8
  go_wp2_with (go_at_call 10; refine (HV.out _ (HT.out.lay _)).mono ?_; rintro e w' ⟨rfl, e1, rfl⟩; rw [lay_bw])
  refine wp_loop_rounds 1 ?_
  rw [rounds_succ]
  go_wp2
  obtain ⟨z, hz⟩ := lay_ex w [.inr e1, .inl (.cells #[.int .i64 y, .int .i64 m, .int .i64 dy, .slice a 0 c] 26 (0, 0))]
  exact bodyPost_ret (v := .tuple #[.slice none 0 0, .int .i64 0]) (by simp [results, Tryz.results8, go_sem]) rfl ⟨_, z, rfl, hz, SlG.nil _ _⟩
set_option maxHeartbeats 2000000 in
set_option maxRecDepth 100000 in
theorem ref_Page_ok {P : Nat → Prop} (y m dy : Int) (v : Value) (l : List TrkV) (w : World) (hv : TksD P w v l) (hp : pgB ⟨y, m, dy, l⟩ = true) (hz : l ≠ []) :
    Calls Tryz.prog 8 #[.agg #[.int .i64 y, .int .i64 m, .int .i64 dy, v]] w (PgE w 0 (tsL l)) := by
  have HV := Lib.hid (fun W (h : TksD P W v l) => ref13_Valid y m dy v l W h)
  have HT := Lib.hid hv
  rw [hp] at HV
  have hok := pgB_iff.1 hp
  have HK : Hid (∀ t ∈ l, trkB t = true) := Lib.hid (fun t ht => by obtain ⟨i, hi⟩ := List.mem_iff_getElem?.1 ht; exact (hok.ok i t hi).1)
  have hlen : l.length ≤ 12 := hok.len
  clear hok hp
  obtain ⟨b, o, c, rfl, hcc, hb, -, hr⟩ := hv.open (List.length_pos_iff.2 hz)
  obtain ⟨q, hq⟩ : ∃ q, l.length = q := ⟨_, rfl⟩
  have HQ := Lib.hid hq
  have HR := Lib.hid hr
  rw [hq] at hcc hlen HV HT ⊢
  clear hr hv hz hq
  refine lay_start ?_
  go_enter Tryz.func8, Tryz.ntmps8
  go_wp2_with (go_at_call 10; refine (HV.out _ (HT.out.lay _)).mono ?_; rintro e w' ⟨rfl, e1, rfl⟩; rw [lay_bw])
  clear HV HT
  go_loopw [4, 5] (fun v4 v5 wr => ∃ (k : Nat) (d0 : Ext), k ≤ q ∧ v5 = .int .i64 (k : Int) ∧ wr = lay w [.inr d0, .inr e1, .inl (.cells #[.int .i64 y, .int .i64 m, .int .i64 dy, .slice (some ⟨b, o, none⟩) q c] 26 (0, 0))] ∧ OwG strR (lay w [.inr d0, .inr e1, .inl (.cells #[.int .i64 y, .int .i64 m, .int .i64 dy, .slice (some ⟨b, o, none⟩) q c] 26 (0, 0))]) (lay w [.inr e1, .inl (.cells #[.int .i64 y, .int .i64 m, .int .i64 dy, .slice (some ⟨b, o, none⟩) q c] 26 (0, 0))]).heap.size v4 (tsL (l.take k))) (fun _ v5 _ => q - (intOf v5).toNat)
  case atStart => exact ⟨0, noExt _, Nat.zero_le _, rfl, (bw_noExt _).symm, OwG.nil _ _ _⟩
  case round =>
    obtain ⟨k, d0, hk, rfl, rfl, hO⟩ := hrel
    have HO := Lib.hid hO
    clear hO
    by_cases hlt : k < q
    · obtain ⟨t, ht⟩ : ∃ t, l[k]? = some t := ⟨_, List.getElem?_eq_getElem (by rw [HQ.out]; exact hlt)⟩
      obtain ⟨x, hw, hD, c0, c1, c2, c3, c4, c5⟩ := HR.out k t ht
      have htk := HK.out t (List.mem_of_getElem? ht)
      have he := trk_giv htk
      obtain ⟨hGb, hDb, hGn, hDn⟩ := trk_lists htk
      have hnm : t.s.size ≤ 20 := (nameB_iff.1 (trkB_iff.1 htk).nm).len
      have hst : tsL (l.take (k + 1)) = tsL (l.take k) ++ (lnL (t.s ++ ghaS) (gaL t) ++ lnL (t.s ++ decS) (deL t)) := tsL_take l k t ht
      have hTl : (tsL (l.take k)).length ≤ 1000 := by
        have h1 := tsL_len (l := l.take k) (fun x hx => HK.out x (List.mem_of_mem_take hx))
        have h2 : (l.take k).length ≤ 12 := by rw [List.length_take]; omega
        omega
      have hsx := hD.s
      have hrx := hD.r
      obtain ⟨xs, ga, gn, gc, da, dn, dc, xp, xq, xr⟩ := x
      dsimp only at hsx hrx c0 c1 c2 c3 c4 c5
      have hg0 := hD.g.1
      have hd0 := hD.d.1
      dsimp only at hg0 hd0
      have HS : Hid (∀ W, Sl W (.slice ga gn gc) t.g → Sl W (.slice da dn dc) t.d → Calls Tryz.prog 19 #[.agg #[.string xs, .slice ga gn gc, .slice da dn dc, .int .i64 xp, .int .i64 xq, .int .i64 xr]] W (SusF W (gaL t) (deL t) 0)) := Lib.hid (fun W h1 h2 => by
        have := re_Suspects xs _ _ t.g t.d xp xq xr W h1 h2
        rw [hrx, he] at this
        rw [hrx]
        exact this)
      have sz1 : ghaS.size = 5 := rfl
      have sz2 : decS.size = 5 := rfl
      have HL1 := Lib.hid (fun W u (h : Sl W u (gaL t)) => ref_lines (t.s ++ ghaS) u (gaL t) W h (by rw [ByteArray.size_append]; omega) hGb (by omega))
      have HL2 := Lib.hid (fun W u (h : Sl W u (deL t)) => ref_lines (t.s ++ decS) u (deL t) W h (by rw [ByteArray.size_append]; omega) hDb (by omega))
      have hn1 : (lnL (t.s ++ ghaS) (gaL t)).length ≤ 100 := by unfold lnL; rw [List.length_map]; omega
      have hn2 : (lnL (t.s ++ decS) (deL t)).length ≤ 100 := by unfold lnL; rw [List.length_map]; omega
      have hsz1 : ¬ 9223372036854775807 < t.s.size + 5 := by omega
      have hl5 : ByteArray.size ⟨#[32, 103, 104, 97, 32]⟩ = 5 := rfl
      have hl6 : ByteArray.size ⟨#[32, 100, 101, 99, 32]⟩ = 5 := rfl
      have HG0 := Lib.hid hg0
      have HD0 := Lib.hid hd0
      have HST := Lib.hid hst
      have x1 : (k : Int) < (q : Int) := by omega
      have x0 : (0 : Int) ≤ (k : Int) := by omega
      subst hsx
      clear hD hw htk he hg0 hd0 hst hGb hDb hrx ht sz1 sz2 hGn hDn
      generalize lnL (t.s ++ ghaS) (gaL t) = LG at *
      generalize lnL (t.s ++ decS) (deL t) = LD at *
      have eg1 : ghaS = ⟨#[32, 103, 104, 97, 32]⟩ := rfl
      have eg2 : decS = ⟨#[32, 100, 101, 99, 32]⟩ := rfl
      rw [eg1] at HL1
      rw [eg2] at HL2
      clear eg1 eg2
      generalize gaL t = G at *
      generalize deL t = D at *
      generalize tsL (l.take k) = T at *
      generalize t.g = lg at *
      generalize t.d = ld at *
      generalize t.s = S at *
      go_wp2_with fail
      refine (HS.out _ (HG0.out.lay _) (HD0.out.lay _)).mono ?_
      rintro e w' ⟨v1, v2, d1, rfl, rfl, ⟨hs1, hs2⟩, hf1, hf2⟩
      rw [lay_bw] at hs1 hs2 ⊢
      have ha2 := Ap.frsh (m := D) HO.out hf2 (Nat.le_refl _)
      have HS1 := Lib.hid hs1
      have HS2 := Lib.hid hs2
      have HA2 := Lib.hid ha2
      clear hs1 hs2 hf1 hf2 ha2 HS HG0 HD0
      go_wp2_with fail
      refine (HL1.out _ _ HS1.out).mono ?_
      rintro e w' ⟨va, da', rfl, rfl, hva⟩
      rw [lay_bw] at hva ⊢
      obtain ⟨aa, ca, rfl⟩ := hva.form
      have HVA := Lib.hid hva
      clear hva
      go_wp2_with (at_builtin; refine push_slS rfl _ _ rfl (lay w [.inr e1, .inl (.cells #[.int .i64 y, .int .i64 m, .int .i64 dy, .slice (some ⟨b, o, none⟩) q c] 26 (0, 0))]) _ _ T _ _ _ LG (lay_belowG (A := [_, _, _])) (owG_on (A := [_, _]) HO.out) (HVA.out.sl strOk) HVA.out.nn rfl rfl (by omega) ?_; intro v' d3 hv' hkp)
      have hs2' := sl_keptS (sl_on (A := [_]) HS2.out) HA2.out hkp
      have HO3 := Lib.hid hv'
      have HS3 := Lib.hid hs2'
      clear hv' hkp hs2' HS2 HA2 HVA
      go_wp2_with fail
      refine (HL2.out _ _ HS3.out).mono ?_
      rintro e w' ⟨vb, db', rfl, rfl, hvb⟩
      rw [lay_bw] at hvb ⊢
      obtain ⟨ab, cb, rfl⟩ := hvb.form
      have HVB := Lib.hid hvb
      clear hvb
      go_wp2_with (at_builtin; refine push_slG strOk rfl _ _ rfl (lay w [.inr e1, .inl (.cells #[.int .i64 y, .int .i64 m, .int .i64 dy, .slice (some ⟨b, o, none⟩) q c] 26 (0, 0))]) _ _ (T ++ LG) _ _ _ LD (lay_belowG (A := [_, _])) (owG_on (A := [_]) HO3.out) (HVB.out.sl strOk) HVB.out.nn rfl rfl (by rw [List.length_append]; omega) ?_; intro v5' d4 hv5)
      have HO5 := Lib.hid hv5
      clear hv5
      go_wp2_with fail
      go_roundw
      case rel => exact ⟨k + 1, d4, hlt, by go_num, rfl, by rw [HST.out, ← List.append_assoc]; exact HO5.out⟩
      case measure => simp [intOf]; omega
    · obtain rfl : k = q := by omega
      have x1 : ¬ (k : Int) < (k : Int) := by omega
      have HTT : Hid (tsL (l.take k) = tsL l) := Lib.hid (by rw [List.take_of_length_le (by rw [HQ.out]; omega)])
      go_wp2_with fail
      obtain ⟨z, hz⟩ := lay_ex w [.inr d0, .inr e1, .inl (.cells #[.int .i64 y, .int .i64 m, .int .i64 dy, .slice (some ⟨b, o, none⟩) k c] 26 (0, 0))]
      have h := HO.out
      rw [HTT.out, hz] at h
      exact bodyPost_ret (v := .tuple #[_, .int .i64 0]) (by simp [results, Tryz.results8, go_sem]) rfl ⟨_, z, rfl, hz, h.sl strOk⟩
end Go.Proofs.YtmmfkleplbofgaaGreatDoor

/- Contracts and plain laws, several texts in one: Fe3 -/
import Derived.Test.YtjfpgpipbooilaaGreatProg
import Derived.WalkKit
import Derived.WalkSpells
import Derived.WalkLawsBesides
import Derived.Lib.Hide
import Derived.BigQuiet
import Derived.Test.YtjfpgpipbooilaaGreatWAA
import Derived.Test.YtjfpgpipbooilaaGreatWAB
import Derived.Test.YtjfpgpipbooilaaGreatWBV
import Derived.Test.YtjfpgpipbooilaaGreatWBW
import Derived.Test.YtjfpgpipbooilaaGreatWBX
/- The law FinderWider. -/
namespace Go.Proofs.YtjfpgpipbooilaaGreat
open Go.RowKit Go.Shelf

theorem ref51_Given (a b u v x y : Int) (w : World) :
    Calls Tryz.prog 7 #[(.agg #[.int .i64 (a), .int .i64 (b)]), (.agg #[.int .i64 (u), .int .i64 (v), .int .i64 (x), .int .i64 (y)])] w fun e w' => e = .returned (.int .i64 (if timB a b = true ∧ plcR u v x y = true then 0 else 1)) ∧ ∃ d, w' = bw w d := by
  have HT := Lib.hid (fun W => ref10_Valid a b W)
  have HP := Lib.hid (fun W => r8_Valid u v x y W)
  cases ht : timB a b <;> cases hp : plcR u v x y
  all_goals
    rw [ht] at HT
    rw [hp] at HP
    clear ht hp
    refine lay_start ?_
    go_enter Tryz.func7, Tryz.ntmps7
    go_wp2_with (first | (go_at_call 26; refine (HT.out _).mono ?_; rintro e w' ⟨rfl, d1, rfl⟩; rw [lay_bw]) | (go_at_call 27; refine (HP.out _).mono ?_; rintro e w' ⟨rfl, d2, rfl⟩; rw [lay_bw]))
    go_ret
    exact ⟨by simp, lay_ex _ _⟩
set_option maxHeartbeats 8000000 in
set_option maxRecDepth 100000 in
theorem law51_Wider {P : Nat → Prop} (vp vs : Value) (lp : List PgV) (ls : List StarV) (a b u v x y h0 h1 z0 z1 n : Int) (w : World) (hp : PgsD P w vp lp) (hP : ∀ b, P b → b < w.heap.size) (hv : SlG stR w vs ls) (n0 : 0 ≤ n) (n1 : n ≤ 65535) :
    Calls Tryz.prog 3 #[vp, vs, (.agg #[.int .i64 (a), .int .i64 (b)]), (.agg #[.int .i64 (u), .int .i64 (v), .int .i64 (x), .int .i64 (y)]), (.agg #[.int .i64 (h0), .int .i64 (h1)]), (.agg #[.int .i64 (z0), .int .i64 (z1)]), .int .u16 n] w fun e w' => e = .returned (.bool true) ∧ ∃ d, w' = bw w d := by
  have HA := Lib.hid (fun W => law51_awake W)
  have HB := Lib.hid (fun L => law51_book vp vs lp ls (lay w L) (hp.lay L) (fun b hb => Nat.lt_of_lt_of_le (hP b hb) (lay_extends w L).size) (hv.lay L))
  have HGv := Lib.hid (fun W => ref51_Given a b u v x y W)
  have HLa := Lib.hid (fun W => r8_lat h0 h1 W)
  have HVa := Lib.hid (fun W => ref05_Valid z0 z1 W)
  obtain ⟨sa, sc, rfl⟩ := hv.form
  obtain ⟨pa, pc, rfl⟩ := pgs_form hp
  generalize ls.length = ns at *
  generalize lp.length = np at *
  clear hp hP hv
  refine lay_start ?_
  go_enter Tryz.func3, Tryz.ntmps3
  go_wp2_with (go_at_call 5; refine (HA.out _).mono ?_; rintro e w' ⟨rfl, d1, rfl⟩; rw [lay_bw])
  refine (HB.out _).mono ?_
  rintro e w' (⟨rfl, db, rfl⟩ | ⟨hE, bk, w1, db, rfl, rfl, hBk⟩)
  · rw [lay_bw]
    go_wp2_with fail
    go_ret
    exact ⟨by first | rfl | simp, lay_ex _ _⟩
  · rw [lay_bw] at hBk ⊢
    have hk := newE_0 hE
    clear HA HB hE
    by_cases hg : timB a b = true ∧ plcR u v x y = true
    · rw [if_pos hg] at HGv
      have kd : IntKind.i64.wrap (b - a) = b - a := IntWalk.i64_in _ (by have := timB_iff.1 hg.1; omega)
      by_cases hd : b - a < 86400000
      · have hdd : ¬ (86400000 : Int) ≤ b - a := by omega
        have HId := fn_IdentifyB hBk hk hg.1 hd hg.2
        have HSk := fn_SkyB hBk hk hg.1 hd hg.2
        have HBd := Lib.hid (cnd_bd (lp := lp) (ls := ls) (a := a) (b := b) hk hg.2)
        have HLn : Hid ((cndL lp ls a b u v x y).length ≤ 3000000) := Lib.hid (Nat.le_trans cndL_len (nmL_len hk))
        clear hBk hk hg hd
        generalize cndL lp ls a b u v x y = C at *
        cases hl : latB h0 h1
        · rw [hl] at HLa
          go_wp2_with (first | (go_at_call 7; refine (HGv.out _).mono ?_; rintro e w' ⟨rfl, dg, rfl⟩; rw [lay_bw]) | (go_at_call 8; refine (HLa.out _).mono ?_; rintro e w' ⟨rfl, dl, rfl⟩; rw [lay_bw]) | (go_at_call 9; refine (HVa.out _).mono ?_; rintro e w' ⟨rfl, dv, rfl⟩; rw [lay_bw]))
          go_ret
          exact ⟨by first | rfl | simp, lay_ex _ _⟩
        · rw [hl] at HLa
          cases hz : validB z0 z1
          · rw [hz] at HVa
            go_wp2_with (first | (go_at_call 7; refine (HGv.out _).mono ?_; rintro e w' ⟨rfl, dg, rfl⟩; rw [lay_bw]) | (go_at_call 8; refine (HLa.out _).mono ?_; rintro e w' ⟨rfl, dl, rfl⟩; rw [lay_bw]) | (go_at_call 9; refine (HVa.out _).mono ?_; rintro e w' ⟨rfl, dv, rfl⟩; rw [lay_bw]))
            go_ret
            exact ⟨by first | rfl | simp, lay_ex _ _⟩
          · rw [hz] at HVa
            obtain ⟨l1, l2, l3⟩ := latB_iff.1 hl
            obtain ⟨v1, v2, v3⟩ := validB_iff.1 hz
            have kz : IntKind.i64.wrap (z1 - z0) = z1 - z0 := IntWalk.i64_in _ (by omega)
            by_cases c1 : (549755813888 : Int) < z1 - z0
            · clear v1 v2 v3 l1 l2 l3
              go_wp2_with (first | (go_at_call 7; refine (HGv.out _).mono ?_; rintro e w' ⟨rfl, dg, rfl⟩; rw [lay_bw]) | (go_at_call 8; refine (HLa.out _).mono ?_; rintro e w' ⟨rfl, dl, rfl⟩; rw [lay_bw]) | (go_at_call 9; refine (HVa.out _).mono ?_; rintro e w' ⟨rfl, dv, rfl⟩; rw [lay_bw]))
              go_ret
              exact ⟨by first | rfl | simp, lay_ex _ _⟩
            · by_cases c2 : z0 < -549755813888
              · clear v1 v2 v3 l1 l2 l3
                go_wp2_with (first | (go_at_call 7; refine (HGv.out _).mono ?_; rintro e w' ⟨rfl, dg, rfl⟩; rw [lay_bw]) | (go_at_call 8; refine (HLa.out _).mono ?_; rintro e w' ⟨rfl, dl, rfl⟩; rw [lay_bw]) | (go_at_call 9; refine (HVa.out _).mono ?_; rintro e w' ⟨rfl, dv, rfl⟩; rw [lay_bw]))
                go_ret
                exact ⟨by first | rfl | simp, lay_ex _ _⟩
              · by_cases c3 : (549755813888 : Int) < z1
                · clear v1 v2 v3 l1 l2 l3
                  go_wp2_with (first | (go_at_call 7; refine (HGv.out _).mono ?_; rintro e w' ⟨rfl, dg, rfl⟩; rw [lay_bw]) | (go_at_call 8; refine (HLa.out _).mono ?_; rintro e w' ⟨rfl, dl, rfl⟩; rw [lay_bw]) | (go_at_call 9; refine (HVa.out _).mono ?_; rintro e w' ⟨rfl, dv, rfl⟩; rw [lay_bw]))
                  go_ret
                  exact ⟨by first | rfl | simp, lay_ex _ _⟩
                · have kn : IntKind.i64.wrap n = n := IntWalk.i64_in _ (by omega)
                  have ka : IntKind.i64.wrap (h0 - n) = h0 - n := IntWalk.i64_in _ (by omega)
                  have kb : IntKind.i64.wrap (h1 + n) = h1 + n := IntWalk.i64_in _ (by omega)
                  have kc : IntKind.i64.wrap (z0 - n) = z0 - n := IntWalk.i64_in _ (by omega)
                  have ke : IntKind.i64.wrap (z1 + n) = z1 + n := IntWalk.i64_in _ (by omega)
                  have HF := Lib.hid (And.intro l1 (And.intro l2 (And.intro l3 (And.intro v1 (And.intro v2 (And.intro v3 (And.intro n0 n1)))))))
                  have HC := Lib.hid (And.intro c1 (And.intro c2 c3))
                  clear l1 l2 l3 v1 v2 v3 n0 n1
                  go_wp2_with (first | (go_at_call 7; refine (HGv.out _).mono ?_; rintro e w' ⟨rfl, dg, rfl⟩; rw [lay_bw]) | (go_at_call 8; refine (HLa.out _).mono ?_; rintro e w' ⟨rfl, dl, rfl⟩; rw [lay_bw]) | (go_at_call 9; refine (HVa.out _).mono ?_; rintro e w' ⟨rfl, dv, rfl⟩; rw [lay_bw]))
                  refine (HId.out _ _ _ _ _ (lay_belowG (A := [_, _, _, _])) hl hz).mono ?_
                  rintro e w' ⟨va, da, rfl, rfl, hA⟩
                  rw [lay_bw] at hA ⊢
                  have HAr := Lib.hid hA
                  clear hA
                  go_wp2_with fail
                  refine (HId.out _ (mx (-5400000) (h0 - n)) (mn 5400000 (h1 + n)) (z0 - n) (z1 + n) (lay_belowG (A := [_, _, _, _, _])) (by rw [latB_iff, mx_eq, mn_eq]; have := HF.out; omega) (by rw [validB_iff]; have := HF.out; have := HC.out; omega)).mono ?_
                  rintro e w' ⟨vc, dc, rfl, rfl, hC⟩
                  rw [lay_bw] at hC ⊢
                  have hwide : ∀ s ∈ idL C h0 h1 z0 z1, s ∈ idL C (mx (-5400000) (h0 - n)) (mn 5400000 (h1 + n)) (z0 - n) (z1 + n) := wide_sub (by have := HF.out; omega) (by have := HF.out; omega) (by rw [mx_eq]; have := HF.out; omega) (by rw [mn_eq]; have := HF.out; omega)
                  have HWd := Lib.hid hwide
                  clear hwide
                  generalize idL C (mx (-5400000) (h0 - n)) (mn 5400000 (h1 + n)) (z0 - n) (z1 + n) = LC at *
                  obtain ⟨ca, cc, rfl⟩ := hC.form
                  obtain ⟨mc, hmc⟩ : ∃ mc, LC.length = mc := ⟨_, rfl⟩
                  rw [hmc] at hC ⊢
                  have HCr := Lib.hid (hC.sl strOk)
                  clear hC hmc
                  go_wp2_with fail
                  refine (HSk.out _ h0 (lay_belowG (A := [_, _, _, _, _, _, _])) (by have := HF.out; omega) (by have := HF.out; omega)).mono ?_
                  rintro e w' ⟨vs, ds, rfl, rfl, hS⟩
                  rw [lay_bw] at hS ⊢
                  simp only [List.cons_append, List.nil_append] at hS ⊢
                  have HSr := Lib.hid hS
                  clear hS
                  go_wp2_with fail
                  refine (HId.out _ h0 5400000 0 21600000 (lay_belowG (A := [_, _, _, _, _, _, _, _])) (by rw [latB_iff]; have := HF.out; omega) (by decide)).mono ?_
                  rintro e w' ⟨ve, de, rfl, rfl, hE⟩
                  rw [lay_bw] at hE ⊢
                  simp only [List.cons_append, List.nil_append] at hE ⊢
                  have hev := every_eq (n := h0) HBd.out
                  have hsub : ∀ s ∈ idL C h0 h1 z0 z1, s ∈ (skyL C h0).map SeenV.s := fun s hs => by rw [← hev]; exact every_sub HBd.out s hs
                  rw [hev] at hE
                  have HSb := Lib.hid hsub
                  have hml : (skyL C h0).length ≤ 3000000 := Nat.le_trans (sky_len C h0) HLn.out
                  clear hsub hev HBd HLn HF HC HId HSk
                  generalize skyL C h0 = S at *
                  generalize idL C h0 h1 z0 z1 = LA at *
                  obtain ⟨ga, gc, rfl⟩ := HSr.out.form
                  obtain ⟨ea, ec, rfl⟩ := hE.form
                  obtain ⟨m, hm⟩ : ∃ m, S.length = m := ⟨_, rfl⟩
                  have HM := Lib.hid hm
                  have HEr := Lib.hid hE
                  rw [List.length_map, hm] at HEr ⊢
                  rw [hm] at HSr hml
                  clear hE hm
                  go_wp2_with fail
                  go_loopw [164] (fun v164 wr => ∃ (j : Nat) (d9 : Ext), j ≤ m ∧ v164 = .int .i64 (j : Int) ∧ wr = lay w [.inr d9, .inl (.cells #[.slice ea m ec] 38 (0, 0)), .inr de, .inr ds, .inl (.cells #[.slice ca mc cc] 38 (0, 0)), .inr dc, .inr da, .inr dv, .inr dl, .inr dg, .inl (.cells #[.slice pa np pc, .slice sa ns sc] 33 (0, 0)), .inr db, .inr d1, .inl (.cells #[.int .i64 z0, .int .i64 z1] 26 (0, 0)), .inl (.cells #[.int .i64 h0, .int .i64 h1] 26 (0, 0)), .inl (.cells #[.int .i64 u, .int .i64 v, .int .i64 x, .int .i64 y] 28 (0, 0)), .inl (.cells #[.int .i64 a, .int .i64 b] 25 (0, 0))]) (fun v164 _ => m - (intOf v164).toNat)
                  case atStart => exact ⟨0, noExt _, Nat.zero_le _, rfl, (bw_noExt _).symm⟩
                  case round =>
                    obtain ⟨j, d9, hj, rfl, rfl⟩ := hrel
                    by_cases hlt : j < m
                    · have hjl : j < S.length := by rw [HM.out]; exact hlt
                      obtain ⟨z, hs⟩ : ∃ z, S[j]? = some z := ⟨_, List.getElem?_eq_getElem hjl⟩
                      have hN := HSr.out
                      have hE := HEr.out
                      rw [← HM.out] at hN hE
                      obtain ⟨g, c, hg, -, hgs, -⟩ := hN.form1 (by omega)
                      simp only [Value.slice.injEq] at hg
                      obtain ⟨hg, -, -⟩ := hg
                      subst hg
                      obtain ⟨ge, c', hge, -, hges, -⟩ := hE.form1 (by rw [List.length_map]; omega)
                      simp only [Value.slice.injEq] at hge
                      obtain ⟨hge, -, -⟩ := hge
                      subst hge
                      rw [HM.out] at hN hE
                      have hN1 := owG_on (A := [.inr d9, .inl (.cells #[.slice (some ⟨ge, 0, none⟩) m ec] 38 (0, 0)), .inr de]) (B := [.inr ds, .inl (.cells #[.slice ca mc cc] 38 (0, 0)), .inr dc, .inr da, .inr dv, .inr dl, .inr dg, .inl (.cells #[.slice pa np pc, .slice sa ns sc] 33 (0, 0)), .inr db, .inr d1, .inl (.cells #[.int .i64 z0, .int .i64 z1] 26 (0, 0)), .inl (.cells #[.int .i64 h0, .int .i64 h1] 26 (0, 0)), .inl (.cells #[.int .i64 u, .int .i64 v, .int .i64 x, .int .i64 y] 28 (0, 0)), .inl (.cells #[.int .i64 a, .int .i64 b] 25 (0, 0))]) hN
                      have c0 : (lay w [.inr d9, .inl (.cells #[.slice (some ⟨ge, 0, none⟩) m ec] 38 (0, 0)), .inr de, .inr ds, .inl (.cells #[.slice ca mc cc] 38 (0, 0)), .inr dc, .inr da, .inr dv, .inr dl, .inr dg, .inl (.cells #[.slice pa np pc, .slice sa ns sc] 33 (0, 0)), .inr db, .inr d1, .inl (.cells #[.int .i64 z0, .int .i64 z1] 26 (0, 0)), .inl (.cells #[.int .i64 h0, .int .i64 h1] 26 (0, 0)), .inl (.cells #[.int .i64 u, .int .i64 v, .int .i64 x, .int .i64 y] 28 (0, 0)), .inl (.cells #[.int .i64 a, .int .i64 b] 25 (0, 0))]).cell? ⟨g, j * 5, none⟩ = some (.string z.s) := by simpa [seenR] using hN1.cell seenOk hs (j := 0) (u := .string z.s) rfl
                      have c1' : (lay w [.inr d9, .inl (.cells #[.slice (some ⟨ge, 0, none⟩) m ec] 38 (0, 0)), .inr de, .inr ds, .inl (.cells #[.slice ca mc cc] 38 (0, 0)), .inr dc, .inr da, .inr dv, .inr dl, .inr dg, .inl (.cells #[.slice pa np pc, .slice sa ns sc] 33 (0, 0)), .inr db, .inr d1, .inl (.cells #[.int .i64 z0, .int .i64 z1] 26 (0, 0)), .inl (.cells #[.int .i64 h0, .int .i64 h1] 26 (0, 0)), .inl (.cells #[.int .i64 u, .int .i64 v, .int .i64 x, .int .i64 y] 28 (0, 0)), .inl (.cells #[.int .i64 a, .int .i64 b] 25 (0, 0))]).cell? ⟨g, j * 5 + 1, none⟩ = some (.int .i64 z.h0) := by simpa [seenR] using hN1.cell seenOk hs (j := 1) (u := .int .i64 z.h0) rfl
                      have c2' : (lay w [.inr d9, .inl (.cells #[.slice (some ⟨ge, 0, none⟩) m ec] 38 (0, 0)), .inr de, .inr ds, .inl (.cells #[.slice ca mc cc] 38 (0, 0)), .inr dc, .inr da, .inr dv, .inr dl, .inr dg, .inl (.cells #[.slice pa np pc, .slice sa ns sc] 33 (0, 0)), .inr db, .inr d1, .inl (.cells #[.int .i64 z0, .int .i64 z1] 26 (0, 0)), .inl (.cells #[.int .i64 h0, .int .i64 h1] 26 (0, 0)), .inl (.cells #[.int .i64 u, .int .i64 v, .int .i64 x, .int .i64 y] 28 (0, 0)), .inl (.cells #[.int .i64 a, .int .i64 b] 25 (0, 0))]).cell? ⟨g, j * 5 + 2, none⟩ = some (.int .i64 z.h1) := by simpa [seenR] using hN1.cell seenOk hs (j := 2) (u := .int .i64 z.h1) rfl
                      have c3' : (lay w [.inr d9, .inl (.cells #[.slice (some ⟨ge, 0, none⟩) m ec] 38 (0, 0)), .inr de, .inr ds, .inl (.cells #[.slice ca mc cc] 38 (0, 0)), .inr dc, .inr da, .inr dv, .inr dl, .inr dg, .inl (.cells #[.slice pa np pc, .slice sa ns sc] 33 (0, 0)), .inr db, .inr d1, .inl (.cells #[.int .i64 z0, .int .i64 z1] 26 (0, 0)), .inl (.cells #[.int .i64 h0, .int .i64 h1] 26 (0, 0)), .inl (.cells #[.int .i64 u, .int .i64 v, .int .i64 x, .int .i64 y] 28 (0, 0)), .inl (.cells #[.int .i64 a, .int .i64 b] 25 (0, 0))]).cell? ⟨g, j * 5 + 3, none⟩ = some (.int .i64 z.z0) := by simpa [seenR] using hN1.cell seenOk hs (j := 3) (u := .int .i64 z.z0) rfl
                      have c4' : (lay w [.inr d9, .inl (.cells #[.slice (some ⟨ge, 0, none⟩) m ec] 38 (0, 0)), .inr de, .inr ds, .inl (.cells #[.slice ca mc cc] 38 (0, 0)), .inr dc, .inr da, .inr dv, .inr dl, .inr dg, .inl (.cells #[.slice pa np pc, .slice sa ns sc] 33 (0, 0)), .inr db, .inr d1, .inl (.cells #[.int .i64 z0, .int .i64 z1] 26 (0, 0)), .inl (.cells #[.int .i64 h0, .int .i64 h1] 26 (0, 0)), .inl (.cells #[.int .i64 u, .int .i64 v, .int .i64 x, .int .i64 y] 28 (0, 0)), .inl (.cells #[.int .i64 a, .int .i64 b] 25 (0, 0))]).cell? ⟨g, j * 5 + 4, none⟩ = some (.int .i64 z.z1) := by simpa [seenR] using hN1.cell seenOk hs (j := 4) (u := .int .i64 z.z1) rfl
                      have hsm : (S.map SeenV.s)[j]? = some z.s := by rw [List.getElem?_map, hs]; rfl
                      obtain ⟨s, p1, p2, p3, p4⟩ := z
                      dsimp only at c0 c1' c2' c3' c4' hsm
                      have cE : ∀ dq, (lay w [.inr dq, .inl (.cells #[.string s, .int .i64 p1, .int .i64 p2, .int .i64 p3, .int .i64 p4] 46 (0, 0)), .inr d9, .inl (.cells #[.slice (some ⟨ge, 0, none⟩) m ec] 38 (0, 0)), .inr de, .inr ds, .inl (.cells #[.slice ca mc cc] 38 (0, 0)), .inr dc, .inr da, .inr dv, .inr dl, .inr dg, .inl (.cells #[.slice pa np pc, .slice sa ns sc] 33 (0, 0)), .inr db, .inr d1, .inl (.cells #[.int .i64 z0, .int .i64 z1] 26 (0, 0)), .inl (.cells #[.int .i64 h0, .int .i64 h1] 26 (0, 0)), .inl (.cells #[.int .i64 u, .int .i64 v, .int .i64 x, .int .i64 y] 28 (0, 0)), .inl (.cells #[.int .i64 a, .int .i64 b] 25 (0, 0))]).cell? ⟨ge, j, none⟩ = some (.string s) := fun dq => by simpa [strR] using (owG_on (A := [.inr dq, .inl (.cells #[.string s, .int .i64 p1, .int .i64 p2, .int .i64 p3, .int .i64 p4] 46 (0, 0)), .inr d9, .inl (.cells #[.slice (some ⟨ge, 0, none⟩) m ec] 38 (0, 0))]) (B := [.inr de, .inr ds, .inl (.cells #[.slice ca mc cc] 38 (0, 0)), .inr dc, .inr da, .inr dv, .inr dl, .inr dg, .inl (.cells #[.slice pa np pc, .slice sa ns sc] 33 (0, 0)), .inr db, .inr d1, .inl (.cells #[.int .i64 z0, .int .i64 z1] 26 (0, 0)), .inl (.cells #[.int .i64 h0, .int .i64 h1] 26 (0, 0)), .inl (.cells #[.int .i64 u, .int .i64 v, .int .i64 x, .int .i64 y] 28 (0, 0)), .inl (.cells #[.int .i64 a, .int .i64 b] 25 (0, 0))]) hE).cell strOk hsm (j := 0) (u := .string s) rfl
                      have x0 : (0 : Int) ≤ (j : Int) := by omega
                      have x1 : (j : Int) < (m : Int) := by omega
                      clear hN hE hN1 hs hsm hjl
                      go_wp2_with fail
                      refine region_bw (by kernel_rfl) (by kernel_rfl) ?_
                      repeat (go_big_quiet_step ((first | fail)))
                      refine wpQuiet_nil ?_
                      rintro w' ⟨d, rfl⟩
                      rw [lay_bw]
                      go_wp2_with fail
                      go_roundw
                      case rel => exact ⟨j + 1, _, hlt, by go_num, Classical.choose_spec (lay_fold w [_, _, _] _)⟩
                      case measure => simp [intOf]; omega
                    · obtain rfl : m = j := by omega
                      have x1 : ¬ (m : Int) < (m : Int) := by omega
                      have eI : ∀ args w, (callFunc 13 args).run Tryz.prog w = .ok (.enter 13 args) w := enters_of Tryz.func13 (by kernel_rfl) rfl
                      have hany : LA.any (fun _ => false) = false := by simp
                      go_wp2_with fail
                      refine (str_ContainsFunc 13 [.pointer (some ⟨posn w [dc.n, da.n, dv.n, dl.n, dg.n, 1, db.n, d1.n, 1, 1, 1, 1], 0, none⟩), .pointer (some ⟨posn w [de.n, ds.n, 1, dc.n, da.n, dv.n, dl.n, dg.n, 1, db.n, d1.n, 1, 1, 1, 1], 0, none⟩)] (fun _ => false) va LA (lay w [.inr d9, .inl (.cells #[.slice ea m ec] 38 (0, 0)), .inr de, .inr ds, .inl (.cells #[.slice ca mc cc] 38 (0, 0)), .inr dc, .inr da, .inr dv, .inr dl, .inr dg, .inl (.cells #[.slice pa np pc, .slice sa ns sc] 33 (0, 0)), .inr db, .inr d1, .inl (.cells #[.int .i64 z0, .int .i64 z1] 26 (0, 0)), .inl (.cells #[.int .i64 h0, .int .i64 h1] 26 (0, 0)), .inl (.cells #[.int .i64 u, .int .i64 v, .int .i64 x, .int .i64 y] 28 (0, 0)), .inl (.cells #[.int .i64 a, .int .i64 b] 25 (0, 0))]) (slG_on (A := [.inr d9, .inl (.cells #[.slice ea m ec] 38 (0, 0)), .inr de, .inr ds, .inl (.cells #[.slice ca mc cc] 38 (0, 0)), .inr dc]) (HAr.out.sl strOk)) eI (fun s hs d' => ?_)).mono ?_
                      · exact (law51_closure s (posn w [dc.n, da.n, dv.n, dl.n, dg.n, 1, db.n, d1.n, 1, 1, 1, 1]) (posn w [de.n, ds.n, 1, dc.n, da.n, dv.n, dl.n, dg.n, 1, db.n, d1.n, 1, 1, 1, 1]) (.slice ca mc cc) (.slice ea m ec) LC (S.map SeenV.s) (lay w [.inr d', .inr d9, .inl (.cells #[.slice ea m ec] 38 (0, 0)), .inr de, .inr ds, .inl (.cells #[.slice ca mc cc] 38 (0, 0)), .inr dc, .inr da, .inr dv, .inr dl, .inr dg, .inl (.cells #[.slice pa np pc, .slice sa ns sc] 33 (0, 0)), .inr db, .inr d1, .inl (.cells #[.int .i64 z0, .int .i64 z1] 26 (0, 0)), .inl (.cells #[.int .i64 h0, .int .i64 h1] 26 (0, 0)), .inl (.cells #[.int .i64 u, .int .i64 v, .int .i64 x, .int .i64 y] 28 (0, 0)), .inl (.cells #[.int .i64 a, .int .i64 b] 25 (0, 0))]) (slG_on (A := [.inr d', .inr d9, .inl (.cells #[.slice ea m ec] 38 (0, 0)), .inr de, .inr ds, .inl (.cells #[.slice ca mc cc] 38 (0, 0))]) HCr.out) (slG_on (A := [.inr d', .inr d9, .inl (.cells #[.slice ea m ec] 38 (0, 0))]) (HEr.out.sl strOk)) (HWd.out s hs) (HSb.out s hs) (by simp only [lay_size, shp, posn, List.sum_cons, List.sum_nil]; omega) (by simp only [lay_size, shp, posn, List.sum_cons, List.sum_nil]; omega) (by simp [go_sem]) (by simp [go_sem])).mono fun e w' ⟨a, b, c⟩ => ⟨a, _, c.trans (bw_bw _ _ _)⟩
                      · rintro e w' ⟨rfl, dz, rfl⟩
                        rw [hany, lay_bw]
                        go_wp2_with fail
                        go_ret
                        exact ⟨by first | rfl | simp, lay_ex _ _⟩
      · have hdd : (86400000 : Int) ≤ b - a := by omega
        clear hBk hk hg hd
        go_wp2_with (first | (go_at_call 7; refine (HGv.out _).mono ?_; rintro e w' ⟨rfl, dg, rfl⟩; rw [lay_bw]) | (go_at_call 8; refine (HLa.out _).mono ?_; rintro e w' ⟨rfl, dl, rfl⟩; rw [lay_bw]) | (go_at_call 9; refine (HVa.out _).mono ?_; rintro e w' ⟨rfl, dv, rfl⟩; rw [lay_bw]))
        go_ret
        exact ⟨by first | rfl | simp, lay_ex _ _⟩
    · rw [if_neg hg] at HGv
      clear hBk hk hg
      go_wp2_with (first | (go_at_call 7; refine (HGv.out _).mono ?_; rintro e w' ⟨rfl, dg, rfl⟩; rw [lay_bw]) | (go_at_call 8; refine (HLa.out _).mono ?_; rintro e w' ⟨rfl, dl, rfl⟩; rw [lay_bw]) | (go_at_call 9; refine (HVa.out _).mono ?_; rintro e w' ⟨rfl, dv, rfl⟩; rw [lay_bw]))
      go_ret
      exact ⟨by first | rfl | simp, lay_ex _ _⟩
end Go.Proofs.YtjfpgpipbooilaaGreat

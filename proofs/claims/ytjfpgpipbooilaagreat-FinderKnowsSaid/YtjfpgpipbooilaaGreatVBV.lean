/- Contracts and plain laws, several texts in one: Fd3; Fd4; Fd5; Fd6; Hz1 -/
import Derived.Test.YtjfpgpipbooilaaGreatProg
import Derived.WalkKit
import Derived.WalkSpells
import Derived.WalkLawsBesides
import Derived.Lib.Hide
import Derived.BigQuiet
import Derived.Test.YtjfpgpipbooilaaGreatVAA
import Derived.Test.YtjfpgpipbooilaaGreatVAB
import Derived.Test.YtjfpgpipbooilaaGreatVBS
import Derived.Test.YtjfpgpipbooilaaGreatVBU
/- finder: candidates. -/
namespace Go.Proofs.YtjfpgpipbooilaaGreat
open Go.RowKit Go.Shelf

theorem nmL_len {lp : List PgV} {ls : List StarV} (k : NewOk lp ls) : (nmL lp ls).length ≤ 3000000 := by
  unfold nmL
  rw [List.length_append, List.length_append, List.length_map]
  have := (catB_iff.1 k.cat).len
  have := tkL_len k.few17
  simp only [List.length_cons, List.length_nil]
  omega
set_option maxHeartbeats 4000000 in
set_option maxRecDepth 100000 in
theorem fn_candidates {w : World} {bk : Nat} {lp : List PgV} {ls : List StarV} {W : World} (h : BkA w bk lp ls W) (k : NewOk lp ls) (a b u v x y : Int) (ht : timB a b = true) (hd : b - a < 86400000) (hp : plcR u v x y = true) (L : List (Obj ⊕ Ext)) :
    Calls Tryz.prog 31 #[.pointer (some ⟨bk, 0, none⟩), (.agg #[.int .i64 (a), .int .i64 (b)]), (.agg #[.int .i64 (u), .int .i64 (v), .int .i64 (x), .int .i64 (y)])] (lay W L) (RowE seenR (lay W L) (cndL lp ls a b u v x y)) := by
  have HW := made_Where (h.bw L) k
  have HB := made_Bodies (h.bw L) k
  have HLen := Lib.hid (nmL_len k)
  have HEq : Hid (cndL lp ls a b u v x y = (nmL lp ls).flatMap (cnd1 lp ls a b u v x y)) := Lib.hid rfl
  have HTk := Lib.hid (fun j s (h : (nmL lp ls)[j]? = some s) => cnd_take (lp := lp) (ls := ls) (a := a) (b := b) (u := u) (v := v) (x := x) (y := y) h)
  have HT1 : Hid (∀ j, (((nmL lp ls).take j).flatMap (cnd1 lp ls a b u v x y)).length ≤ 3000000) := Lib.hid (fun j => by
    have : ∀ l : List ByteArray, (l.flatMap (cnd1 lp ls a b u v x y)).length ≤ l.length := fun l => by
      induction l with
      | nil => simp
      | cons s l ih =>
        rw [List.flatMap_cons, List.length_append, List.length_cons]
        have : (cnd1 lp ls a b u v x y s).length ≤ 1 := by unfold cnd1; split; simp; split <;> simp
        omega
    have h1 := this ((nmL lp ls).take j)
    have h2 := nmL_len k
    rw [List.length_take] at h1
    omega)
  have HE := Lib.hid (fun s (hs : s ∈ nmL lp ls) => whR_nm hs ht hd)
  have HO := Lib.hid (fun s (h0 : (whR lp ls s a b).2 = 0) => cnd_ok (s := s) k hp h0)
  have HF1 : Hid (∀ s, isA s = true → cnd1 lp ls a b u v x y s = []) := Lib.hid (fun s hs => by unfold cnd1; rw [if_pos hs])
  have HF2 : Hid (∀ s, (whR lp ls s a b).2 = 20 → cnd1 lp ls a b u v x y s = []) := Lib.hid (fun s hs => by unfold cnd1; split; rfl; rw [if_neg (by omega)])
  have HF3 : Hid (∀ s, isA s = false → (whR lp ls s a b).2 = 0 → cnd1 lp ls a b u v x y s = [⟨s, alL u v (whR lp ls s a b).1.c (whR lp ls s a b).1.d ((whR lp ls s a b).1.a + x) ((whR lp ls s a b).1.b + y), alH u v (whR lp ls s a b).1.c (whR lp ls s a b).1.d ((whR lp ls s a b).1.a + x) ((whR lp ls s a b).1.b + y),
      (azF u v (whR lp ls s a b).1.c (whR lp ls s a b).1.d ((whR lp ls s a b).1.a + x) ((whR lp ls s a b).1.b + y)).1, (azF u v (whR lp ls s a b).1.c (whR lp ls s a b).1.d ((whR lp ls s a b).1.a + x) ((whR lp ls s a b).1.b + y)).2⟩]) := Lib.hid (fun s h1 h2 => by unfold cnd1; rw [if_neg (by rw [h1]; decide), if_pos h2])
  have kd : IntKind.i64.wrap (b - a) = b - a := IntWalk.i64_in _ (by have := timB_iff.1 ht; omega)
  have hdd : ¬ (86400000 : Int) ≤ b - a := by omega
  clear ht hd hp k h
  rw [HEq.out]
  clear HEq
  change Hid (∀ L, Calls _ _ _ _ (StrOwn _ (nmL lp ls))) at HB
  generalize nmL lp ls = NM at *
  obtain ⟨C1, hC1⟩ : ∃ C1, cnd1 lp ls a b u v x y = C1 := ⟨_, rfl⟩
  rw [hC1] at HTk HT1 HF1 HF2 HF3 ⊢
  clear hC1
  generalize lay W L = w at *
  refine lay_start ?_
  go_enter Tryz.func31, Tryz.ntmps31
  go_wp2_with fail
  refine (HB.out _).mono ?_
  rintro e w' ⟨vn, dN, rfl, rfl, hN⟩
  rw [lay_bw] at hN ⊢
  obtain ⟨na, nc, rfl⟩ := hN.form
  obtain ⟨m, hm⟩ : ∃ m, NM.length = m := ⟨_, rfl⟩
  have HNM := Lib.hid hN
  have HM := Lib.hid hm
  have hmb : m ≤ 3000000 := by rw [← hm]; exact HLen.out
  rw [hm] at HNM ⊢
  clear hN hm
  go_wp2_with fail
  go_loopw [8, 24] (fun v8 v24 wr => ∃ (j : Nat) (d0 : Ext), j ≤ m ∧ v24 = .int .i64 (j : Int) ∧ wr = lay w [.inr d0, .inr dN, .inl (.cells #[.int .i64 u, .int .i64 v, .int .i64 x, .int .i64 y] 28 (0, 0)), .inl (.cells #[.int .i64 a, .int .i64 b] 25 (0, 0))] ∧ OwG seenR (lay w [.inr d0, .inr dN, .inl (.cells #[.int .i64 u, .int .i64 v, .int .i64 x, .int .i64 y] 28 (0, 0)), .inl (.cells #[.int .i64 a, .int .i64 b] 25 (0, 0))]) (lay w [.inr dN, .inl (.cells #[.int .i64 u, .int .i64 v, .int .i64 x, .int .i64 y] 28 (0, 0)), .inl (.cells #[.int .i64 a, .int .i64 b] 25 (0, 0))]).heap.size v8 ((NM.take j).flatMap C1)) (fun _ v24 _ => m - (intOf v24).toNat)
  case atStart => exact ⟨0, noExt _, Nat.zero_le _, rfl, (bw_noExt _).symm, OwG.nil _ _ _⟩
  case round =>
    obtain ⟨j, d0, hj, rfl, rfl, hO⟩ := hrel
    have HOw := Lib.hid hO
    clear hO
    by_cases hlt : j < m
    · have hjl : j < NM.length := by rw [HM.out]; exact hlt
      obtain ⟨s, hs⟩ : ∃ s, NM[j]? = some s := ⟨_, List.getElem?_eq_getElem hjl⟩
      have hN := HNM.out
      rw [← HM.out] at hN
      obtain ⟨g, c, hg, -, hgs, -⟩ := hN.form1 (by omega)
      simp only [Value.slice.injEq] at hg
      obtain ⟨rfl, -, rfl⟩ := hg
      have hc0 := (owG_on (A := [.inr d0]) (B := [.inr dN, .inl (.cells #[.int .i64 u, .int .i64 v, .int .i64 x, .int .i64 y] 28 (0, 0)), .inl (.cells #[.int .i64 a, .int .i64 b] 25 (0, 0))]) hN).cell strOk hs (j := 0) (u := .string s) rfl
      have hsz : s.size ≤ 9223372036854775807 := hN.2 s (List.mem_of_getElem? hs)
      have hc1 : (lay w [.inr d0, .inr dN, .inl (.cells #[.int .i64 u, .int .i64 v, .int .i64 x, .int .i64 y] 28 (0, 0)), .inl (.cells #[.int .i64 a, .int .i64 b] 25 (0, 0))]).cell? ⟨g, j, none⟩ = some (.string s) := by simpa [strR] using hc0
      have hst := HTk.out j s hs
      have hen := HE.out s (List.mem_of_getElem? hs)
      have hlen := Nat.le_trans (HT1.out j) (by decide : 3000000 ≤ 1000000000)
      have HOk := Lib.hid (HO.out s)
      have HWs := Lib.hid (HW.out s a b)
      have f1 := HF1.out s
      have f2 := HF2.out s
      have f3 := HF3.out s
      have x0 : (0 : Int) ≤ (j : Int) := by omega
      have x1 : (j : Int) < (m : Int) := by omega
      rw [gv_eta] at HWs
      clear hN hc0 hs hjl
      cases hA : isA s
      · have hA' := isA_list hA
        clear f1
        have f4 := f3 hA
        clear f3
        obtain ⟨E, hE⟩ : ∃ E, (whR lp ls s a b).2 = E := ⟨_, rfl⟩
        rw [hE] at HWs hen f2 f4 HOk
        rcases hen with rfl | rfl
        · obtain ⟨ok1, ok2, ok3, ok4⟩ := HOk.out rfl
          have f5 := f4 rfl
          rw [f5] at hst
          clear f2 f4 f5 HOk hE
          have HAd := Lib.hid (fun W => angle_Add (whR lp ls s a b).1.a (whR lp ls s a b).1.b x y W ok1 ok2 ok3)
          have HSo := Lib.hid (fun W => cos_Solve u v (whR lp ls s a b).1.c (whR lp ls s a b).1.d ((whR lp ls s a b).1.a + x) ((whR lp ls s a b).1.b + y) W ok4)
          generalize alL u v (whR lp ls s a b).1.c (whR lp ls s a b).1.d ((whR lp ls s a b).1.a + x) ((whR lp ls s a b).1.b + y) = q1 at *
          generalize alH u v (whR lp ls s a b).1.c (whR lp ls s a b).1.d ((whR lp ls s a b).1.a + x) ((whR lp ls s a b).1.b + y) = q2 at *
          generalize (azF u v (whR lp ls s a b).1.c (whR lp ls s a b).1.d ((whR lp ls s a b).1.a + x) ((whR lp ls s a b).1.b + y)).1 = q3 at *
          generalize (azF u v (whR lp ls s a b).1.c (whR lp ls s a b).1.d ((whR lp ls s a b).1.a + x) ((whR lp ls s a b).1.b + y)).2 = q4 at *
          clear ok1 ok2 ok3 ok4
          generalize (whR lp ls s a b).1.a + x = r1 at *
          generalize (whR lp ls s a b).1.b + y = r2 at *
          generalize (whR lp ls s a b).1 = GG at *
          obtain ⟨g1, g2, g3, g4, g5, g6, g7, g8⟩ := GG
          dsimp only at HWs HAd HSo
          have HST := Lib.hid hst
          clear hst
          generalize (NM.take j).flatMap C1 = T at *
          go_wp2_with fail
          refine (HWs.out _).mono ?_
          rintro e w' ⟨rfl, d1, rfl⟩
          rw [lay_bw]
          go_wp2_with fail
          refine (HAd.out _).mono ?_
          rintro e w' ⟨rfl, d2, rfl⟩
          rw [lay_bw]
          go_wp2_with fail
          refine (HSo.out _).mono ?_
          rintro e w' ⟨rfl, d3, rfl⟩
          rw [lay_bw]
          go_wp2_with (at_builtin; refine push_rec seenOk rfl _ _ rfl (lay w [.inr dN, .inl (.cells #[.int .i64 u, .int .i64 v, .int .i64 x, .int .i64 y] 28 (0, 0)), .inl (.cells #[.int .i64 a, .int .i64 b] 25 (0, 0))]) _ ⟨s, q1, q2, q3, q4⟩ #[.string s, .int .i64 q1, .int .i64 q2, .int .i64 q3, .int .i64 q4] 46 _ _ T (lay_belowG (A := [_, _, _, _, _, _, _, _])) (owG_on (A := [_, _, _, _, _, _, _]) HOw.out) (lay_get w _ 0 _ rfl) rfl rfl rfl hlen hsz ?_; intro v' d' hv')
          have HV := Lib.hid hv'
          clear hv'
          go_wp2_with fail
          go_roundw
          case rel => exact ⟨j + 1, d', hlt, by go_num, rfl, by rw [HST.out]; exact HV.out⟩
          case measure => simp [intOf]; omega
        · have f5 := f2 rfl
          rw [f5, List.append_nil] at hst
          clear f2 f4 f5 HOk hE
          generalize (whR lp ls s a b).1 = GG at *
          obtain ⟨g1, g2, g3, g4, g5, g6, g7, g8⟩ := GG
          dsimp only at HWs
          have HST := Lib.hid hst
          clear hst
          generalize (NM.take j).flatMap C1 = T at *
          go_wp2_with fail
          refine (HWs.out _).mono ?_
          rintro e w' ⟨rfl, d1, rfl⟩
          rw [lay_bw]
          go_wp2_with fail
          go_roundw
          case rel => exact ⟨j + 1, _, hlt, by go_num, Classical.choose_spec (lay_fold w [_, _, _] [.inr dN, .inl (.cells #[.int .i64 u, .int .i64 v, .int .i64 x, .int .i64 y] 28 (0, 0)), .inl (.cells #[.int .i64 a, .int .i64 b] 25 (0, 0))]), by rw [← Classical.choose_spec (lay_fold w [.inl (.cells #[.int .i64 g1, .int .i64 g2, .int .i64 g3, .int .i64 g4, .int .i64 g5, .int .i64 g6, .int .i64 g7, .int .i64 g8] 59 (0, 0)), .inr d1, .inr d0] [.inr dN, .inl (.cells #[.int .i64 u, .int .i64 v, .int .i64 x, .int .i64 y] 28 (0, 0)), .inl (.cells #[.int .i64 a, .int .i64 b] 25 (0, 0))]), HST.out]; exact owG_on (A := [_, _]) HOw.out⟩
          case measure => simp [intOf]; omega
      · have hA' := isA_list hA
        rw [f1 hA, List.append_nil] at hst
        have HST := Lib.hid hst
        clear hst f1 f2 f3 HOk HWs hen
        generalize (NM.take j).flatMap C1 = T at *
        go_wp2_with fail
        go_roundw
        case rel => exact ⟨j + 1, d0, hlt, by go_num, rfl, by rw [HST.out]; exact HOw.out⟩
        case measure => simp [intOf]; omega
    · obtain rfl : m = j := by omega
      have x1 : ¬ (m : Int) < (m : Int) := by omega
      have HTT : Hid ((NM.take m).flatMap C1 = NM.flatMap C1) := Lib.hid (by rw [List.take_of_length_le (by rw [HM.out]; omega)])
      go_wp2_with fail
      obtain ⟨z, hz⟩ := lay_ex w [.inr d0, .inr dN, .inl (.cells #[.int .i64 u, .int .i64 v, .int .i64 x, .int .i64 y] 28 (0, 0)), .inl (.cells #[.int .i64 a, .int .i64 b] 25 (0, 0))]
      have h := HOw.out
      rw [HTT.out, hz] at h
      exact bodyPost_ret (v := .tuple #[_, .int .i64 0]) (by simp [results, Tryz.results31, go_sem]) rfl ⟨_, z, rfl, hz, h.le (lay_extends w _).size⟩
end Go.Proofs.YtjfpgpipbooilaaGreat
/- finder: Sky. -/
namespace Go.Proofs.YtjfpgpipbooilaaGreat
open Go.RowKit Go.Shelf

theorem sky_take {C : List SeenV} {n : Int} {j : Nat} {z : SeenV} (h : C[j]? = some z) : skyL (C.take (j + 1)) n = skyL (C.take j) n ++ if n ≤ z.h1 then [z] else [] := by
  obtain ⟨hk, rfl⟩ := List.getElem?_eq_some_iff.1 h
  unfold skyL
  rw [List.take_succ_eq_append_getElem hk, List.filter_append]
  congr 1
  simp only [List.filter_cons, List.filter_nil, decide_eq_true_eq]
theorem sky_len (C : List SeenV) (n : Int) : (skyL C n).length ≤ C.length := List.length_filter_le _ _
theorem id_take {C : List SeenV} {h0 h1 z0 z1 : Int} {j : Nat} {z : SeenV} (h : C[j]? = some z) : idL (C.take (j + 1)) h0 h1 z0 z1 = idL (C.take j) h0 h1 z0 z1 ++ if idB h0 h1 z0 z1 z = true then [z.s] else [] := by
  obtain ⟨hk, rfl⟩ := List.getElem?_eq_some_iff.1 h
  unfold idL
  rw [List.take_succ_eq_append_getElem hk, List.filter_append, List.map_append]
  congr 1
  simp only [List.filter_cons, List.filter_nil]
  split <;> rfl
theorem id_len (C : List SeenV) (h0 h1 z0 z1 : Int) : (idL C h0 h1 z0 z1).length ≤ C.length := by
  unfold idL
  rw [List.length_map]
  exact List.length_filter_le _ _
set_option maxHeartbeats 4000000 in
set_option maxRecDepth 100000 in
theorem fn_Sky {w : World} {bk : Nat} {lp : List PgV} {ls : List StarV} {W : World} (h : BkA w bk lp ls W) (k : NewOk lp ls) (a b u v x y n : Int) (ht : timB a b = true) (hd : b - a < 86400000) (hp : plcR u v x y = true) (hn0 : -5400000 ≤ n) (hn1 : n ≤ 5400000) (L : List (Obj ⊕ Ext)) :
    Calls Tryz.prog 11 #[.pointer (some ⟨bk, 0, none⟩), (.agg #[.int .i64 (a), .int .i64 (b)]), (.agg #[.int .i64 (u), .int .i64 (v), .int .i64 (x), .int .i64 (y)]), .int .i64 n] (lay W L) (RowE seenR (lay W L) (skyL (cndL lp ls a b u v x y) n)) := by
  have hpw : plcW u v x y = true := by
    unfold plcR at hp
    unfold plcW
    simp only [Bool.and_eq_true] at hp ⊢
    exact ⟨hp.1, (lonB_valid hp.2).2⟩
  have HG := Lib.hid (fun W' => fn_given bk a b u v x y W' ht hpw)
  have HC := Lib.hid (fun L' => fn_candidates (h.bw L) k a b u v x y ht hd hp L')
  have HBd := Lib.hid (cnd_bd (lp := lp) (ls := ls) (a := a) (b := b) k hp)
  have HLn : Hid ((cndL lp ls a b u v x y).length ≤ 3000000) := Lib.hid (Nat.le_trans cndL_len (nmL_len k))
  have nn : ¬ n < -5400000 := by omega
  have nn2 : ¬ (5400000 : Int) < n := by omega
  clear ht hd hp hpw k h
  generalize cndL lp ls a b u v x y = C at *
  generalize lay W L = w at *
  refine lay_start ?_
  go_enter Tryz.func11, Tryz.ntmps11
  go_wp2_with (go_at_call 28; refine (HG.out _).mono ?_; rintro e w' ⟨rfl, dg, rfl⟩; rw [lay_bw])
  refine (HC.out _).mono ?_
  rintro e w' ⟨vc, dc, rfl, rfl, hC⟩
  rw [lay_bw] at hC ⊢
  obtain ⟨na, nc, rfl⟩ := hC.form
  obtain ⟨m, hm⟩ : ∃ m, C.length = m := ⟨_, rfl⟩
  have HCN := Lib.hid hC
  have HM := Lib.hid hm
  have hmb : m ≤ 3000000 := by rw [← hm]; exact HLn.out
  rw [hm] at HCN ⊢
  clear hC hm HC HG
  go_wp2_with fail
  go_loopw [13, 41] (fun v13 v41 wr => ∃ (j : Nat) (d0 : Ext), j ≤ m ∧ v41 = .int .i64 (j : Int) ∧ wr = lay w [.inr d0, .inr dc, .inr dg, .inl (.cells #[.int .i64 u, .int .i64 v, .int .i64 x, .int .i64 y] 28 (0, 0)), .inl (.cells #[.int .i64 a, .int .i64 b] 25 (0, 0))] ∧ OwG seenR (lay w [.inr d0, .inr dc, .inr dg, .inl (.cells #[.int .i64 u, .int .i64 v, .int .i64 x, .int .i64 y] 28 (0, 0)), .inl (.cells #[.int .i64 a, .int .i64 b] 25 (0, 0))]) (lay w [.inr dc, .inr dg, .inl (.cells #[.int .i64 u, .int .i64 v, .int .i64 x, .int .i64 y] 28 (0, 0)), .inl (.cells #[.int .i64 a, .int .i64 b] 25 (0, 0))]).heap.size v13 (skyL (C.take j) n)) (fun _ v41 _ => m - (intOf v41).toNat)
  case atStart => exact ⟨0, noExt _, Nat.zero_le _, rfl, (bw_noExt _).symm, OwG.nil _ _ _⟩
  case round =>
    obtain ⟨j, d0, hj, rfl, rfl, hO⟩ := hrel
    have HOw := Lib.hid hO
    clear hO
    by_cases hlt : j < m
    · have hjl : j < C.length := by rw [HM.out]; exact hlt
      obtain ⟨z, hs⟩ : ∃ z, C[j]? = some z := ⟨_, List.getElem?_eq_getElem hjl⟩
      have hN := HCN.out
      rw [← HM.out] at hN
      obtain ⟨g, c, hg, -, hgs, -⟩ := hN.form1 (by omega)
      simp only [Value.slice.injEq] at hg
      obtain ⟨rfl, -, rfl⟩ := hg
      have hN1 := owG_on (A := [.inr d0]) (B := [.inr dc, .inr dg, .inl (.cells #[.int .i64 u, .int .i64 v, .int .i64 x, .int .i64 y] 28 (0, 0)), .inl (.cells #[.int .i64 a, .int .i64 b] 25 (0, 0))]) hN
      have hsz : z.s.size ≤ 9223372036854775807 := hN.2 z (List.mem_of_getElem? hs)
      have c0 : (lay w [.inr d0, .inr dc, .inr dg, .inl (.cells #[.int .i64 u, .int .i64 v, .int .i64 x, .int .i64 y] 28 (0, 0)), .inl (.cells #[.int .i64 a, .int .i64 b] 25 (0, 0))]).cell? ⟨g, j * 5, none⟩ = some (.string z.s) := by simpa [seenR] using hN1.cell seenOk hs (j := 0) (u := .string z.s) rfl
      have c1 : (lay w [.inr d0, .inr dc, .inr dg, .inl (.cells #[.int .i64 u, .int .i64 v, .int .i64 x, .int .i64 y] 28 (0, 0)), .inl (.cells #[.int .i64 a, .int .i64 b] 25 (0, 0))]).cell? ⟨g, j * 5 + 1, none⟩ = some (.int .i64 z.h0) := by simpa [seenR] using hN1.cell seenOk hs (j := 1) (u := .int .i64 z.h0) rfl
      have c2 : (lay w [.inr d0, .inr dc, .inr dg, .inl (.cells #[.int .i64 u, .int .i64 v, .int .i64 x, .int .i64 y] 28 (0, 0)), .inl (.cells #[.int .i64 a, .int .i64 b] 25 (0, 0))]).cell? ⟨g, j * 5 + 2, none⟩ = some (.int .i64 z.h1) := by simpa [seenR] using hN1.cell seenOk hs (j := 2) (u := .int .i64 z.h1) rfl
      have c3 : (lay w [.inr d0, .inr dc, .inr dg, .inl (.cells #[.int .i64 u, .int .i64 v, .int .i64 x, .int .i64 y] 28 (0, 0)), .inl (.cells #[.int .i64 a, .int .i64 b] 25 (0, 0))]).cell? ⟨g, j * 5 + 3, none⟩ = some (.int .i64 z.z0) := by simpa [seenR] using hN1.cell seenOk hs (j := 3) (u := .int .i64 z.z0) rfl
      have c4 : (lay w [.inr d0, .inr dc, .inr dg, .inl (.cells #[.int .i64 u, .int .i64 v, .int .i64 x, .int .i64 y] 28 (0, 0)), .inl (.cells #[.int .i64 a, .int .i64 b] 25 (0, 0))]).cell? ⟨g, j * 5 + 4, none⟩ = some (.int .i64 z.z1) := by simpa [seenR] using hN1.cell seenOk hs (j := 4) (u := .int .i64 z.z1) rfl
      have hst := sky_take (n := n) hs
      have hbd := HBd.out z (List.mem_of_getElem? hs)
      have hlen : (skyL (C.take j) n).length ≤ 1000000000 := by
        have h1 := sky_len (C.take j) n
        rw [List.length_take] at h1
        have h2 := HLn.out
        omega
      have x0 : (0 : Int) ≤ (j : Int) := by omega
      have x1 : (j : Int) < (m : Int) := by omega
      clear hN hN1 hs hjl
      obtain ⟨s, p1, p2, p3, p4⟩ := z
      dsimp only at c0 c1 c2 c3 c4 hst hbd hsz
      by_cases hc : n ≤ p2
      · rw [if_pos hc] at hst
        have HST := Lib.hid hst
        clear hst
        generalize skyL (C.take j) n = T at *
        go_wp2_with (at_builtin; refine push_rec seenOk rfl _ _ rfl (lay w [.inr dc, .inr dg, .inl (.cells #[.int .i64 u, .int .i64 v, .int .i64 x, .int .i64 y] 28 (0, 0)), .inl (.cells #[.int .i64 a, .int .i64 b] 25 (0, 0))]) _ ⟨s, p1, p2, p3, p4⟩ #[.string s, .int .i64 p1, .int .i64 p2, .int .i64 p3, .int .i64 p4] 46 _ _ T (lay_belowG (A := [_, _, _])) (owG_on (A := [_, _]) HOw.out) (lay_get w _ 0 _ rfl) rfl rfl rfl hlen hsz ?_; intro v' d' hv')
        have HV := Lib.hid hv'
        clear hv'
        go_wp2_with fail
        go_roundw
        case rel => exact ⟨j + 1, d', hlt, by go_num, rfl, by rw [HST.out]; exact HV.out⟩
        case measure => simp [intOf]; omega
      · rw [if_neg hc, List.append_nil] at hst
        have HST := Lib.hid hst
        clear hst
        generalize skyL (C.take j) n = T at *
        go_wp2_with fail
        go_roundw
        case rel => exact ⟨j + 1, _, hlt, by go_num, Classical.choose_spec (lay_fold w [_, _] [.inr dc, .inr dg, .inl (.cells #[.int .i64 u, .int .i64 v, .int .i64 x, .int .i64 y] 28 (0, 0)), .inl (.cells #[.int .i64 a, .int .i64 b] 25 (0, 0))]), by rw [← Classical.choose_spec (lay_fold w [.inl (.cells #[.string s, .int .i64 p1, .int .i64 p2, .int .i64 p3, .int .i64 p4] 46 (0, 0)), .inr d0] [.inr dc, .inr dg, .inl (.cells #[.int .i64 u, .int .i64 v, .int .i64 x, .int .i64 y] 28 (0, 0)), .inl (.cells #[.int .i64 a, .int .i64 b] 25 (0, 0))]), HST.out]; exact owG_on (A := [_]) HOw.out⟩
        case measure => simp [intOf]; omega
    · obtain rfl : m = j := by omega
      have x1 : ¬ (m : Int) < (m : Int) := by omega
      have HTT : Hid (skyL (C.take m) n = skyL C n) := Lib.hid (by rw [List.take_of_length_le (by rw [HM.out]; omega)])
      go_wp2_with fail
      obtain ⟨zz, hz⟩ := lay_ex w [.inr d0, .inr dc, .inr dg, .inl (.cells #[.int .i64 u, .int .i64 v, .int .i64 x, .int .i64 y] 28 (0, 0)), .inl (.cells #[.int .i64 a, .int .i64 b] 25 (0, 0))]
      have h := HOw.out
      rw [HTT.out, hz] at h
      exact bodyPost_ret (v := .tuple #[_, .int .i64 0]) (by simp [results, Tryz.results11, go_sem]) rfl ⟨_, zz, rfl, hz, h.le (lay_extends w _).size⟩
end Go.Proofs.YtjfpgpipbooilaaGreat
/- finder: Identify. -/
namespace Go.Proofs.YtjfpgpipbooilaaGreat
open Go.RowKit Go.Shelf

set_option maxHeartbeats 4000000 in
set_option maxRecDepth 100000 in
theorem fn_Identify {w : World} {bk : Nat} {lp : List PgV} {ls : List StarV} {W : World} (h : BkA w bk lp ls W) (k : NewOk lp ls) (a b u v x y h0 h1 z0 z1 : Int) (ht : timB a b = true) (hd : b - a < 86400000) (hp : plcR u v x y = true) (hl : latB h0 h1 = true) (hzv : validB z0 z1 = true) (L : List (Obj ⊕ Ext)) :
    Calls Tryz.prog 10 #[.pointer (some ⟨bk, 0, none⟩), (.agg #[.int .i64 (a), .int .i64 (b)]), (.agg #[.int .i64 (u), .int .i64 (v), .int .i64 (x), .int .i64 (y)]), (.agg #[.int .i64 (h0), .int .i64 (h1)]), (.agg #[.int .i64 (z0), .int .i64 (z1)])] (lay W L) (RowE strR (lay W L) (idL (cndL lp ls a b u v x y) h0 h1 z0 z1)) := by
  have hpw : plcW u v x y = true := by
    unfold plcR at hp
    unfold plcW
    simp only [Bool.and_eq_true] at hp ⊢
    exact ⟨hp.1, (lonB_valid hp.2).2⟩
  have HG := Lib.hid (fun W' => fn_given bk a b u v x y W' ht hpw)
  have HC := Lib.hid (fun L' => fn_candidates (h.bw L) k a b u v x y ht hd hp L')
  have HBd := Lib.hid (cnd_bd (lp := lp) (ls := ls) (a := a) (b := b) k hp)
  have HLn : Hid ((cndL lp ls a b u v x y).length ≤ 3000000) := Lib.hid (Nat.le_trans cndL_len (nmL_len k))
  have HLa := Lib.hid (fun W' => fn_latitude h0 h1 W')
  have HVa := Lib.hid (fun W' => angle_Valid z0 z1 W')
  rw [hl] at HLa
  rw [hzv] at HVa
  clear hl
  clear ht hd hp hpw k h
  generalize cndL lp ls a b u v x y = C at *
  generalize lay W L = w at *
  refine lay_start ?_
  go_enter Tryz.func10, Tryz.ntmps10
  go_wp2_with (first | (go_at_call 28; refine (HG.out _).mono ?_; rintro e w' ⟨rfl, dg, rfl⟩; rw [lay_bw]) | (go_at_call 29; refine (HLa.out _).mono ?_; rintro e w' ⟨rfl, dl, rfl⟩; rw [lay_bw]) | (go_at_call 30; refine (HVa.out _).mono ?_; rintro e w' ⟨rfl, dv, rfl⟩; rw [lay_bw]))
  refine (HC.out _).mono ?_
  rintro e w' ⟨vc, dc, rfl, rfl, hC⟩
  rw [lay_bw] at hC ⊢
  obtain ⟨na, nc, rfl⟩ := hC.form
  obtain ⟨m, hm⟩ : ∃ m, C.length = m := ⟨_, rfl⟩
  have HCN := Lib.hid hC
  have HM := Lib.hid hm
  have hmb : m ≤ 3000000 := by rw [← hm]; exact HLn.out
  rw [hm] at HCN ⊢
  clear hC hm HC HG
  go_wp2_with fail
  go_loopw [15, 48] (fun v15 v48 wr => ∃ (j : Nat) (d0 : Ext), j ≤ m ∧ v48 = .int .i64 (j : Int) ∧ wr = lay w [.inr d0, .inr dc, .inr dv, .inr dl, .inr dg, .inl (.cells #[.int .i64 z0, .int .i64 z1] 26 (0, 0)), .inl (.cells #[.int .i64 h0, .int .i64 h1] 26 (0, 0)), .inl (.cells #[.int .i64 u, .int .i64 v, .int .i64 x, .int .i64 y] 28 (0, 0)), .inl (.cells #[.int .i64 a, .int .i64 b] 25 (0, 0))] ∧ OwG strR (lay w [.inr d0, .inr dc, .inr dv, .inr dl, .inr dg, .inl (.cells #[.int .i64 z0, .int .i64 z1] 26 (0, 0)), .inl (.cells #[.int .i64 h0, .int .i64 h1] 26 (0, 0)), .inl (.cells #[.int .i64 u, .int .i64 v, .int .i64 x, .int .i64 y] 28 (0, 0)), .inl (.cells #[.int .i64 a, .int .i64 b] 25 (0, 0))]) (lay w [.inr dc, .inr dv, .inr dl, .inr dg, .inl (.cells #[.int .i64 z0, .int .i64 z1] 26 (0, 0)), .inl (.cells #[.int .i64 h0, .int .i64 h1] 26 (0, 0)), .inl (.cells #[.int .i64 u, .int .i64 v, .int .i64 x, .int .i64 y] 28 (0, 0)), .inl (.cells #[.int .i64 a, .int .i64 b] 25 (0, 0))]).heap.size v15 (idL (C.take j) h0 h1 z0 z1)) (fun _ v48 _ => m - (intOf v48).toNat)
  case atStart => exact ⟨0, noExt _, Nat.zero_le _, rfl, (bw_noExt _).symm, OwG.nil _ _ _⟩
  case round =>
    obtain ⟨j, d0, hj, rfl, rfl, hO⟩ := hrel
    have HOw := Lib.hid hO
    clear hO
    by_cases hlt : j < m
    · have hjl : j < C.length := by rw [HM.out]; exact hlt
      obtain ⟨z, hs⟩ : ∃ z, C[j]? = some z := ⟨_, List.getElem?_eq_getElem hjl⟩
      have hN := HCN.out
      rw [← HM.out] at hN
      obtain ⟨g, c, hg, -, hgs, -⟩ := hN.form1 (by omega)
      simp only [Value.slice.injEq] at hg
      obtain ⟨rfl, -, rfl⟩ := hg
      have hN1 := owG_on (A := [.inr d0]) (B := [.inr dc, .inr dv, .inr dl, .inr dg, .inl (.cells #[.int .i64 z0, .int .i64 z1] 26 (0, 0)), .inl (.cells #[.int .i64 h0, .int .i64 h1] 26 (0, 0)), .inl (.cells #[.int .i64 u, .int .i64 v, .int .i64 x, .int .i64 y] 28 (0, 0)), .inl (.cells #[.int .i64 a, .int .i64 b] 25 (0, 0))]) hN
      have hsz : z.s.size ≤ 9223372036854775807 := hN.2 z (List.mem_of_getElem? hs)
      have c0 : (lay w [.inr d0, .inr dc, .inr dv, .inr dl, .inr dg, .inl (.cells #[.int .i64 z0, .int .i64 z1] 26 (0, 0)), .inl (.cells #[.int .i64 h0, .int .i64 h1] 26 (0, 0)), .inl (.cells #[.int .i64 u, .int .i64 v, .int .i64 x, .int .i64 y] 28 (0, 0)), .inl (.cells #[.int .i64 a, .int .i64 b] 25 (0, 0))]).cell? ⟨g, j * 5, none⟩ = some (.string z.s) := by simpa [seenR] using hN1.cell seenOk hs (j := 0) (u := .string z.s) rfl
      have c1 : (lay w [.inr d0, .inr dc, .inr dv, .inr dl, .inr dg, .inl (.cells #[.int .i64 z0, .int .i64 z1] 26 (0, 0)), .inl (.cells #[.int .i64 h0, .int .i64 h1] 26 (0, 0)), .inl (.cells #[.int .i64 u, .int .i64 v, .int .i64 x, .int .i64 y] 28 (0, 0)), .inl (.cells #[.int .i64 a, .int .i64 b] 25 (0, 0))]).cell? ⟨g, j * 5 + 1, none⟩ = some (.int .i64 z.h0) := by simpa [seenR] using hN1.cell seenOk hs (j := 1) (u := .int .i64 z.h0) rfl
      have c2 : (lay w [.inr d0, .inr dc, .inr dv, .inr dl, .inr dg, .inl (.cells #[.int .i64 z0, .int .i64 z1] 26 (0, 0)), .inl (.cells #[.int .i64 h0, .int .i64 h1] 26 (0, 0)), .inl (.cells #[.int .i64 u, .int .i64 v, .int .i64 x, .int .i64 y] 28 (0, 0)), .inl (.cells #[.int .i64 a, .int .i64 b] 25 (0, 0))]).cell? ⟨g, j * 5 + 2, none⟩ = some (.int .i64 z.h1) := by simpa [seenR] using hN1.cell seenOk hs (j := 2) (u := .int .i64 z.h1) rfl
      have c3 : (lay w [.inr d0, .inr dc, .inr dv, .inr dl, .inr dg, .inl (.cells #[.int .i64 z0, .int .i64 z1] 26 (0, 0)), .inl (.cells #[.int .i64 h0, .int .i64 h1] 26 (0, 0)), .inl (.cells #[.int .i64 u, .int .i64 v, .int .i64 x, .int .i64 y] 28 (0, 0)), .inl (.cells #[.int .i64 a, .int .i64 b] 25 (0, 0))]).cell? ⟨g, j * 5 + 3, none⟩ = some (.int .i64 z.z0) := by simpa [seenR] using hN1.cell seenOk hs (j := 3) (u := .int .i64 z.z0) rfl
      have c4 : (lay w [.inr d0, .inr dc, .inr dv, .inr dl, .inr dg, .inl (.cells #[.int .i64 z0, .int .i64 z1] 26 (0, 0)), .inl (.cells #[.int .i64 h0, .int .i64 h1] 26 (0, 0)), .inl (.cells #[.int .i64 u, .int .i64 v, .int .i64 x, .int .i64 y] 28 (0, 0)), .inl (.cells #[.int .i64 a, .int .i64 b] 25 (0, 0))]).cell? ⟨g, j * 5 + 4, none⟩ = some (.int .i64 z.z1) := by simpa [seenR] using hN1.cell seenOk hs (j := 4) (u := .int .i64 z.z1) rfl
      have hst := id_take (h0 := h0) (h1 := h1) (z0 := z0) (z1 := z1) hs
      have hbd := HBd.out z (List.mem_of_getElem? hs)
      have hlen : (idL (C.take j) h0 h1 z0 z1).length ≤ 1000000000 := by
        have h9 := id_len (C.take j) h0 h1 z0 z1
        rw [List.length_take] at h9
        have h2 := HLn.out
        omega
      have x0 : (0 : Int) ≤ (j : Int) := by omega
      have x1 : (j : Int) < (m : Int) := by omega
      clear hN hN1 hs hjl
      obtain ⟨s, p1, p2, p3, p4⟩ := z
      dsimp only at c0 c1 c2 c3 c4 hst hbd hsz
      have HA := Lib.hid (fun W' => angle_Agree p3 p4 z0 z1 W' (validB_iff.2 (by have := hbd.2; omega)) hzv)
      have e : idB h0 h1 z0 z1 ⟨s, p1, p2, p3, p4⟩ = (agrB p3 p4 z0 z1 && (decide (p1 ≤ h1) && decide (h0 ≤ p2))) := rfl
      rw [e] at hst
      clear e hbd
      generalize agrB p3 p4 z0 z1 = r at *
      cases r
      · rw [Bool.false_and, if_neg Bool.false_ne_true, List.append_nil] at hst
        have HST := Lib.hid hst
        clear hst
        generalize idL (C.take j) h0 h1 z0 z1 = T at *
        go_wp2_with (go_at_call 32; refine (HA.out _).mono ?_; rintro e w' ⟨rfl, da, rfl⟩; rw [lay_bw])
        go_roundw
        case rel => exact ⟨j + 1, _, hlt, by go_num, Classical.choose_spec (lay_fold w [_, _, _] [.inr dc, .inr dv, .inr dl, .inr dg, .inl (.cells #[.int .i64 z0, .int .i64 z1] 26 (0, 0)), .inl (.cells #[.int .i64 h0, .int .i64 h1] 26 (0, 0)), .inl (.cells #[.int .i64 u, .int .i64 v, .int .i64 x, .int .i64 y] 28 (0, 0)), .inl (.cells #[.int .i64 a, .int .i64 b] 25 (0, 0))]), by rw [← Classical.choose_spec (lay_fold w [.inr da, .inl (.cells #[.string s, .int .i64 p1, .int .i64 p2, .int .i64 p3, .int .i64 p4] 46 (0, 0)), .inr d0] [.inr dc, .inr dv, .inr dl, .inr dg, .inl (.cells #[.int .i64 z0, .int .i64 z1] 26 (0, 0)), .inl (.cells #[.int .i64 h0, .int .i64 h1] 26 (0, 0)), .inl (.cells #[.int .i64 u, .int .i64 v, .int .i64 x, .int .i64 y] 28 (0, 0)), .inl (.cells #[.int .i64 a, .int .i64 b] 25 (0, 0))]), HST.out]; exact owG_on (A := [_, _]) HOw.out⟩
        case measure => simp [intOf]; omega
      · rw [Bool.true_and] at hst
        by_cases hc : p1 ≤ h1
        · rw [decide_eq_true hc, Bool.true_and] at hst
          by_cases hc2 : h0 ≤ p2
          · rw [decide_eq_true hc2, if_pos rfl] at hst
            have HST := Lib.hid hst
            clear hst
            generalize idL (C.take j) h0 h1 z0 z1 = T at *
            go_wp2_with (first | (go_at_call 32; refine (HA.out _).mono ?_; rintro e w' ⟨rfl, da, rfl⟩; rw [lay_bw]) | (at_builtin; refine push_rec strOk rfl _ _ rfl (lay w [.inr dc, .inr dv, .inr dl, .inr dg, .inl (.cells #[.int .i64 z0, .int .i64 z1] 26 (0, 0)), .inl (.cells #[.int .i64 h0, .int .i64 h1] 26 (0, 0)), .inl (.cells #[.int .i64 u, .int .i64 v, .int .i64 x, .int .i64 y] 28 (0, 0)), .inl (.cells #[.int .i64 a, .int .i64 b] 25 (0, 0))]) _ s #[.string s] 9 _ _ T (lay_belowG (A := [_, _, _, _])) (owG_on (A := [_, _, _]) HOw.out) (lay_get w _ 0 _ rfl) rfl rfl rfl hlen hsz ?_; intro v' d' hv'; have HV := Lib.hid hv'; clear hv'))
            go_roundw
            case rel => exact ⟨j + 1, d', hlt, by go_num, rfl, by rw [HST.out]; exact HV.out⟩
            case measure => simp [intOf]; omega
          · rw [decide_eq_false hc2, if_neg Bool.false_ne_true, List.append_nil] at hst
            have HST := Lib.hid hst
            clear hst
            generalize idL (C.take j) h0 h1 z0 z1 = T at *
            go_wp2_with (go_at_call 32; refine (HA.out _).mono ?_; rintro e w' ⟨rfl, da, rfl⟩; rw [lay_bw])
            go_roundw
            case rel => exact ⟨j + 1, _, hlt, by go_num, Classical.choose_spec (lay_fold w [_, _, _] [.inr dc, .inr dv, .inr dl, .inr dg, .inl (.cells #[.int .i64 z0, .int .i64 z1] 26 (0, 0)), .inl (.cells #[.int .i64 h0, .int .i64 h1] 26 (0, 0)), .inl (.cells #[.int .i64 u, .int .i64 v, .int .i64 x, .int .i64 y] 28 (0, 0)), .inl (.cells #[.int .i64 a, .int .i64 b] 25 (0, 0))]), by rw [← Classical.choose_spec (lay_fold w [.inr da, .inl (.cells #[.string s, .int .i64 p1, .int .i64 p2, .int .i64 p3, .int .i64 p4] 46 (0, 0)), .inr d0] [.inr dc, .inr dv, .inr dl, .inr dg, .inl (.cells #[.int .i64 z0, .int .i64 z1] 26 (0, 0)), .inl (.cells #[.int .i64 h0, .int .i64 h1] 26 (0, 0)), .inl (.cells #[.int .i64 u, .int .i64 v, .int .i64 x, .int .i64 y] 28 (0, 0)), .inl (.cells #[.int .i64 a, .int .i64 b] 25 (0, 0))]), HST.out]; exact owG_on (A := [_, _]) HOw.out⟩
            case measure => simp [intOf]; omega
        · rw [decide_eq_false hc, Bool.false_and, if_neg Bool.false_ne_true, List.append_nil] at hst
          have HST := Lib.hid hst
          clear hst
          generalize idL (C.take j) h0 h1 z0 z1 = T at *
          go_wp2_with (go_at_call 32; refine (HA.out _).mono ?_; rintro e w' ⟨rfl, da, rfl⟩; rw [lay_bw])
          go_roundw
          case rel => exact ⟨j + 1, _, hlt, by go_num, Classical.choose_spec (lay_fold w [_, _, _] [.inr dc, .inr dv, .inr dl, .inr dg, .inl (.cells #[.int .i64 z0, .int .i64 z1] 26 (0, 0)), .inl (.cells #[.int .i64 h0, .int .i64 h1] 26 (0, 0)), .inl (.cells #[.int .i64 u, .int .i64 v, .int .i64 x, .int .i64 y] 28 (0, 0)), .inl (.cells #[.int .i64 a, .int .i64 b] 25 (0, 0))]), by rw [← Classical.choose_spec (lay_fold w [.inr da, .inl (.cells #[.string s, .int .i64 p1, .int .i64 p2, .int .i64 p3, .int .i64 p4] 46 (0, 0)), .inr d0] [.inr dc, .inr dv, .inr dl, .inr dg, .inl (.cells #[.int .i64 z0, .int .i64 z1] 26 (0, 0)), .inl (.cells #[.int .i64 h0, .int .i64 h1] 26 (0, 0)), .inl (.cells #[.int .i64 u, .int .i64 v, .int .i64 x, .int .i64 y] 28 (0, 0)), .inl (.cells #[.int .i64 a, .int .i64 b] 25 (0, 0))]), HST.out]; exact owG_on (A := [_, _]) HOw.out⟩
          case measure => simp [intOf]; omega
    · obtain rfl : m = j := by omega
      have x1 : ¬ (m : Int) < (m : Int) := by omega
      have HTT : Hid (idL (C.take m) h0 h1 z0 z1 = idL C h0 h1 z0 z1) := Lib.hid (by rw [List.take_of_length_le (by rw [HM.out]; omega)])
      go_wp2_with fail
      obtain ⟨zz, hz⟩ := lay_ex w [.inr d0, .inr dc, .inr dv, .inr dl, .inr dg, .inl (.cells #[.int .i64 z0, .int .i64 z1] 26 (0, 0)), .inl (.cells #[.int .i64 h0, .int .i64 h1] 26 (0, 0)), .inl (.cells #[.int .i64 u, .int .i64 v, .int .i64 x, .int .i64 y] 28 (0, 0)), .inl (.cells #[.int .i64 a, .int .i64 b] 25 (0, 0))]
      have h := HOw.out
      rw [HTT.out, hz] at h
      exact bodyPost_ret (v := .tuple #[_, .int .i64 0]) (by simp [results, Tryz.results10, go_sem]) rfl ⟨_, zz, rfl, hz, h.le (lay_extends w _).size⟩
end Go.Proofs.YtjfpgpipbooilaaGreat
/- finder: Identify, Sky in any further world. -/
namespace Go.Proofs.YtjfpgpipbooilaaGreat
open Go.RowKit Go.Shelf

theorem fn_IdentifyB {w : World} {bk : Nat} {lp : List PgV} {ls : List StarV} {W : World} (h : BkA w bk lp ls W) (k : NewOk lp ls) {a b u v x y : Int} (ht : timB a b = true) (hd : b - a < 86400000) (hp : plcR u v x y = true) :
    Hid (∀ W' h0 h1 z0 z1, Below W.heap.size W W' → latB h0 h1 = true → validB z0 z1 = true → Calls Tryz.prog 10 #[.pointer (some ⟨bk, 0, none⟩), (.agg #[.int .i64 (a), .int .i64 (b)]), (.agg #[.int .i64 (u), .int .i64 (v), .int .i64 (x), .int .i64 (y)]), (.agg #[.int .i64 (h0), .int .i64 (h1)]), (.agg #[.int .i64 (z0), .int .i64 (z1)])] W' (RowE strR W' (idL (cndL lp ls a b u v x y) h0 h1 z0 z1))) :=
  Lib.hid (fun W' h0 h1 z0 z1 hW hl hz => by
    obtain ⟨d, rfl⟩ := bw_of hW
    exact fn_Identify h k a b u v x y h0 h1 z0 z1 ht hd hp hl hz [.inr d])
theorem fn_SkyB {w : World} {bk : Nat} {lp : List PgV} {ls : List StarV} {W : World} (h : BkA w bk lp ls W) (k : NewOk lp ls) {a b u v x y : Int} (ht : timB a b = true) (hd : b - a < 86400000) (hp : plcR u v x y = true) :
    Hid (∀ W' n, Below W.heap.size W W' → -5400000 ≤ n → n ≤ 5400000 → Calls Tryz.prog 11 #[.pointer (some ⟨bk, 0, none⟩), (.agg #[.int .i64 (a), .int .i64 (b)]), (.agg #[.int .i64 (u), .int .i64 (v), .int .i64 (x), .int .i64 (y)]), .int .i64 n] W' (RowE seenR W' (skyL (cndL lp ls a b u v x y) n))) :=
  Lib.hid (fun W' n hW h1 h2 => by
    obtain ⟨d, rfl⟩ := bw_of hW
    exact fn_Sky h k a b u v x y n ht hd hp h1 h2 [.inr d])
end Go.Proofs.YtjfpgpipbooilaaGreat
/- The large and the made of the law of chapter 50. -/
namespace Go.Proofs.YtjfpgpipbooilaaGreat
open Go.RowKit Go.Shelf

def lgP5 (p : PgV) : Bool := decide ((4 : Int) < (p.ts.length : Int)) || p.ts.any lgT
theorem bw_far {w1 w2 : World} (hs : w2.heap.size = w1.heap.size) (d : Ext) {b : Nat} (h : w1.heap.size ≤ b) : (bw w2 d).heap[b]? = (bw w1 d).heap[b]? := by
  simp only [bw]
  rw [Array.getElem?_append_right h, Array.getElem?_append_right (by omega), hs]
theorem bka_swap {w1 w2 : World} {bk : Nat} {lp : List PgV} {ls : List StarV} {d : Ext} (hs : w2.heap.size = w1.heap.size) (h : BkA w1 bk lp ls (bw w1 d)) : BkA w2 bk lp ls (bw w2 d) := by
  obtain ⟨h0, vd, vp, vs, h1, h2, h3, h4, h5, h6⟩ := h
  have hz : (bw w1 d).heap.size ≤ (bw w2 d).heap.size := by simp [bw, hs]
  have hk : ∀ b, (w1.heap.size ≤ b ∧ b ≠ bk) → b < (bw w1 d).heap.size → (bw w2 d).heap[b]? = (bw w1 d).heap[b]? := fun b hb _ => bw_far hs d hb.1
  have hb := bw_far hs d h0
  refine ⟨by omega, vd, vp, vs, ⟨Nat.lt_of_lt_of_le h1.lt hz, (cell_keep hb).trans h1.c0, (cell_keep hb).trans h1.c1, (cell_keep hb).trans h1.c2⟩, ?_, ?_, ?_, ?_, ?_⟩
  · exact (LsP.keep (P := fun b => w1.heap.size ≤ b ∧ b ≠ bk) ⟨h2, h3⟩ hz hk).1
  · rw [hs]; exact h3
  · rw [hs]; exact h4.keep hz hk
  · exact slG_keep h5 h6 hz hk
  · rw [hs]; exact h6
end Go.Proofs.YtjfpgpipbooilaaGreat

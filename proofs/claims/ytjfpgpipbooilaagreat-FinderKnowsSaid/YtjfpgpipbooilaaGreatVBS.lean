/- Contracts and plain laws, several texts in one: Wh5; Wh6; Wh7; Mdf -/
import Derived.Test.YtjfpgpipbooilaaGreatProg
import Derived.WalkKit
import Derived.WalkSpells
import Derived.WalkLawsBesides
import Derived.Lib.Hide
import Derived.BigQuiet
import Derived.Test.YtjfpgpipbooilaaGreatVAA
import Derived.Test.YtjfpgpipbooilaaGreatVAB
import Derived.Test.YtjfpgpipbooilaaGreatVBI
import Derived.Test.YtjfpgpipbooilaaGreatVBL
import Derived.Test.YtjfpgpipbooilaaGreatVBQ
import Derived.Test.YtjfpgpipbooilaaGreatVBR
/- (*almanac.Book).Where in full. -/
namespace Go.Proofs.YtjfpgpipbooilaaGreat
set_option maxHeartbeats 4000000
open Go.RowKit Go.Shelf

theorem isA_list {s : ByteArray} {r : Bool} (h : isA s = r) : (s.toList == [65, 114, 105, 101, 115]) = r := h
theorem idx_where (vs : Value) (ls : List StarV) (s : ByteArray) (w : World) (hv : SlG stR w vs ls) :
    Hid (∀ L b' (_ : b' < (lay w L).heap.size) (_ : ∀ d, (lay w (.inr d :: L)).cell? ⟨b', 0, none⟩ = some (.string s)), Calls Tryz.prog 39 #[vs, .func (.func 40) #[] #[.pointer (some ⟨b', 0, none⟩)]] (lay w L) (IdxPost (lay w L) (fndS ls s))) := by
  have eI : ∀ args w, (callFunc 40 args).run Tryz.prog w = .ok (.enter 40 args) w := enters_of Tryz.func40 (by kernel_rfl) rfl
  exact Lib.hid (fun L b' hb hc => st_IndexFunc 40 [.pointer (some ⟨b', 0, none⟩)] (fun x => nmB x.s s) vs ls (lay w L) (hv.lay L) eI (fun x _ d =>
    alm_Where1 x s b' (lay w (.inr d :: L)) (Nat.lt_of_lt_of_le hb (bw_le _ d)) (hc d) |>.mono fun e w' ⟨h1, d2, h2⟩ => ⟨h1, _, h2.trans (bw_bw _ _ _)⟩))
theorem alm_Where_bad (bk : Nat) (s : ByteArray) (a b : Int) (w : World) (ht : timB a b = false) :
    Calls Tryz.prog 19 #[.pointer (some ⟨bk, 0, none⟩), .string s, (.agg #[.int .i64 (a), .int .i64 (b)])] w fun e w' => e = .returned (.tuple #[gv g0, .int .i64 1]) ∧ ∃ d, w' = bw w d := by
  have HV := Lib.hid (fun W => clock_Valid a b W)
  rw [ht] at HV
  clear ht
  refine lay_start ?_
  go_enter Tryz.func19, Tryz.ntmps19
  go_wp2_with (first | (go_at_call 36; refine (HV.out _).mono ?_; rintro e w' ⟨rfl, dV, rfl⟩))
  all_goals exact bodyPost_ret (v := .tuple #[(.agg #[.int .i64 (0), .int .i64 (0), .int .i64 (0), .int .i64 (0), .int .i64 (0), .int .i64 (0), .int .i64 (0), .int .i64 (0)]), .int .i64 1]) (by simp [results, Tryz.results19, go_sem]) rfl ⟨rfl, lay_ex _ _⟩
theorem alm_Where_wide1 (bk : Nat) (vd vp vs : Value) (ls : List StarV) (s : ByteArray) (a b : Int) (w : World) (hB : Bk w bk vd vp vs) (hv : SlG stR w vs ls) (ht : timB a b = true) (hw : 86400000 ≤ b - a) (hne : isA s = true) :
    Calls Tryz.prog 19 #[.pointer (some ⟨bk, 0, none⟩), .string s, (.agg #[.int .i64 (a), .int .i64 (b)])] w fun e w' => e = .returned (.tuple #[gv g0, .int .i64 24]) ∧ ∃ d, w' = bw w d := by
  obtain ⟨g1, g2, g3⟩ := timB_iff.1 ht
  have HV := Lib.hid (fun W => clock_Valid a b W)
  rw [ht] at HV
  have HI := idx_where vs ls s w hv
  have hne2 := isA_list hne
  obtain ⟨sa, sc, rfl⟩ := hv.form
  obtain ⟨k0, k1, k2, k3⟩ := hB
  have z3 : decide ((86400000 : Int) ≤ wrap64 (b - a)) = true := decide_eq_true (by unfold wrap64; omega)
  generalize ls.length = m at *
  generalize fndS ls s = i at *
  clear hv ht g1 g2 g3 hne
  refine lay_start ?_
  go_enter Tryz.func19, Tryz.ntmps19
  go_wp2_with (first | (go_at_call 36; refine (HV.out _).mono ?_; rintro e w' ⟨rfl, dV, rfl⟩))
  refine (HI.out _ _ (by simp only [lay_size, shp, posn, List.sum_cons, List.sum_nil]; omega) (fun d => by simp [go_sem])).mono ?_
  rintro e w' ⟨rfl, dJ, rfl⟩
  rw [lay_bw]
  go_wp2_with fail
  refine region_bw (by kernel_rfl) (by kernel_rfl) ?_
  repeat (go_big_quiet_step ((first | fail)))
  refine wpQuiet_nil ?_
  rintro w' ⟨dK, rfl⟩
  rw [lay_bw]
  go_wp2_with fail
  all_goals exact bodyPost_ret (v := .tuple #[(.agg #[.int .i64 (0), .int .i64 (0), .int .i64 (0), .int .i64 (0), .int .i64 (0), .int .i64 (0), .int .i64 (0), .int .i64 (0)]), .int .i64 24]) (by simp [results, Tryz.results19, go_sem]) rfl ⟨rfl, lay_ex _ _⟩
theorem alm_Where_wide2 (bk : Nat) (vd vp vs : Value) (ls : List StarV) (i : Nat) (s : ByteArray) (a b : Int) (w : World) (hB : Bk w bk vd vp vs) (hv : SlG stR w vs ls) (ht : timB a b = true) (hw : 86400000 ≤ b - a) (hne : isA s = false) (hi : fndS ls s = (i : Int)) :
    Calls Tryz.prog 19 #[.pointer (some ⟨bk, 0, none⟩), .string s, (.agg #[.int .i64 (a), .int .i64 (b)])] w fun e w' => e = .returned (.tuple #[gv g0, .int .i64 24]) ∧ ∃ d, w' = bw w d := by
  obtain ⟨g1, g2, g3⟩ := timB_iff.1 ht
  have HV := Lib.hid (fun W => clock_Valid a b W)
  rw [ht] at HV
  have HI := idx_where vs ls s w hv
  rw [hi] at HI
  have hne2 := isA_list hne
  obtain ⟨sa, sc, rfl⟩ := hv.form
  obtain ⟨k0, k1, k2, k3⟩ := hB
  have z3 : decide ((86400000 : Int) ≤ wrap64 (b - a)) = true := decide_eq_true (by unfold wrap64; omega)
  have z1 : decide ((i : Int) < 0) = false := decide_eq_false (by omega)
  generalize ls.length = m at *
  clear hv ht g1 g2 g3 hne hi
  refine lay_start ?_
  go_enter Tryz.func19, Tryz.ntmps19
  go_wp2_with (first | (go_at_call 36; refine (HV.out _).mono ?_; rintro e w' ⟨rfl, dV, rfl⟩))
  refine (HI.out _ _ (by simp only [lay_size, shp, posn, List.sum_cons, List.sum_nil]; omega) (fun d => by simp [go_sem])).mono ?_
  rintro e w' ⟨rfl, dJ, rfl⟩
  rw [lay_bw]
  go_wp2_with fail
  refine region_bw (by kernel_rfl) (by kernel_rfl) ?_
  repeat (go_big_quiet_step ((first | fail)))
  refine wpQuiet_nil ?_
  rintro w' ⟨dK, rfl⟩
  rw [lay_bw]
  go_wp2_with fail
  all_goals exact bodyPost_ret (v := .tuple #[(.agg #[.int .i64 (0), .int .i64 (0), .int .i64 (0), .int .i64 (0), .int .i64 (0), .int .i64 (0), .int .i64 (0), .int .i64 (0)]), .int .i64 24]) (by simp [results, Tryz.results19, go_sem]) rfl ⟨rfl, lay_ex _ _⟩
set_option maxRecDepth 100000 in
theorem alm_Where_three {P : Nat → Prop} (bk : Nat) (vd vp vs : Value) (lp : List PgV) (ls : List StarV) (s : ByteArray) (a b : Int) (w : World) (hB : BkL P w bk vd vp vs lp) (hv : SlG stR w vs ls) (ht : timB a b = true) (hne : isA s = false) (hi : fndS ls s = -1) :
    Calls Tryz.prog 19 #[.pointer (some ⟨bk, 0, none⟩), .string s, (.agg #[.int .i64 (a), .int .i64 (b)])] w fun e w' =>
      e = .returned (if Lib.containsS (tkL lp) s = false then .tuple #[gv g0, .int .i64 9] else if 86400000 ≤ b - a then .tuple #[gv g0, .int .i64 24] else .tuple #[gv (bodyR lp s a b).1, .int .i64 (bodyR lp s a b).2]) ∧ ∃ d, w' = bw w d := by
  obtain ⟨g1, g2, g3⟩ := timB_iff.1 ht
  have HV := Lib.hid (fun W => clock_Valid a b W)
  rw [ht] at HV
  have HI := idx_where vs ls s w hv
  rw [hi] at HI
  have HF : Few lp := ⟨by have := hB.few; omega, fun p hp => by have := (hB.ok p hp).len; omega⟩
  have HT := Lib.hid (fun L => alm_tracked bk vd vp vs lp (lay w L) (hB.bk.lay L) (hB.pgs.lay L) HF)
  have HBo := Lib.hid (fun L h => alm_body bk vd vp vs lp s a b (lay w L) (hB.lay L) ht h)
  have hne2 := isA_list hne
  have hbk := hB.bk
  obtain ⟨sa, sc, rfl⟩ := hv.form
  obtain ⟨k0, k1, k2, k3⟩ := hbk
  obtain ⟨T, hT⟩ : ∃ T, tkL lp = T := ⟨_, rfl⟩
  rw [hT] at HT ⊢
  have y1 : decide ((-1 : Int) < 0) = true := by decide
  generalize ls.length = m at *
  obtain ⟨R1, hR1⟩ : ∃ R, (bodyR lp s a b).1 = R := ⟨_, rfl⟩
  obtain ⟨R2, hR2⟩ : ∃ R, (bodyR lp s a b).2 = R := ⟨_, rfl⟩
  rw [hR1, hR2] at HBo ⊢
  obtain ⟨r1, r2, r3, r4, r5, r6, r7, r8⟩ := R1
  have h0e : R2 = 0 ∨ R2 = 20 := by
    rw [← hR2]
    unfold bodyR
    split
    · exact .inr rfl
    · split
      · exact .inl rfl
      · split
        · exact .inr rfl
        · exact .inl rfl
  have hR0 : R2 = 20 → (⟨r1, r2, r3, r4, r5, r6, r7, r8⟩ : GeoV) = g0 := fun h => by
    rw [← hR1]
    rw [← hR2] at h
    unfold bodyR at h ⊢
    revert h
    split
    · intro _; rfl
    · split
      · intro h; cases h
      · split
        · intro _; rfl
        · intro h; cases h
  have HR0 := Lib.hid hR0
  have HCn := Lib.hid (fun W v (h : SlG strR W v T) => str_Contains v T s W h)
  generalize Lib.containsS T s = r at *
  clear hv hB HF hT hi hR1 hR2 hR0 hne ht
  unfold gv
  dsimp only
  unfold gv at HBo
  dsimp only at HBo
  cases r
  · rw [if_pos rfl]
    refine lay_start ?_
    go_enter Tryz.func19, Tryz.ntmps19
    go_wp2_with (first | (go_at_call 36; refine (HV.out _).mono ?_; rintro e w' ⟨rfl, dV, rfl⟩))
    refine (HI.out _ _ (by simp only [lay_size, shp, posn, List.sum_cons, List.sum_nil]; omega) (fun d => by simp [go_sem])).mono ?_
    rintro e w' ⟨rfl, dJ, rfl⟩
    rw [lay_bw]
    go_wp2_with fail
    refine region_mixP [(0, 0), (1, 0), (2, 0), (3, 0), (4, 0), (5, 0), (6, 0), (7, 0), (9, 0), (8, 1), (10, 1), (11, 0)] (by kernel_rfl) (by kernel_rfl) (by kernel_rfl) (by kernel_rfl) (by decide) (by kernel_rfl) ?_
    simp only [List.drop_succ_cons, List.drop_zero, List.length_cons, List.length_nil, Nat.reduceAdd]
    iterate 9 (refine wpMP_quiet rfl (fun K hK => ?_); go_simp; refine hK _ ?_; clear hK K)
    refine wpMP_special rfl (fun K hK d0 => ?_)
    go_simp
    refine (HT.out _).mono ?_
    rintro e w' ⟨tA, tc, dT, rfl, rfl, -, hS⟩
    rw [lay_bw] at hS
    have HS := Lib.hid hS
    clear hS
    refine ⟨_, rfl, ?_⟩
    go_simp
    refine hK _ _ (lay_in w [_, _] _) ?_
    clear hK K
    refine wpMP_special rfl (fun K hK d2 => ?_)
    go_simp
    have h10 := HCn.out _ _ (slG_on (A := [.inr d2]) HS.out)
    simp only [List.cons_append, List.nil_append] at h10
    refine h10.mono ?_
    rintro e w' ⟨rfl, hw2⟩
    clear h10
    subst hw2
    refine ⟨_, rfl, ?_⟩
    go_simp
    refine hK _ _ (lay_in w [_, _, _] _) ?_
    clear hK K
    refine wpMP_quiet rfl (fun K hK => ?_); go_simp; refine hK _ ?_; clear hK K
    refine wpMP_nil ?_
    intro d1
    rw [lay_bw]
    go_wp2_with fail
    all_goals exact bodyPost_ret (v := .tuple #[(.agg #[.int .i64 (0), .int .i64 (0), .int .i64 (0), .int .i64 (0), .int .i64 (0), .int .i64 (0), .int .i64 (0), .int .i64 (0)]), .int .i64 9]) (by simp [results, Tryz.results19, go_sem]) rfl ⟨rfl, lay_ex _ _⟩
  · rw [if_neg (by decide)]
    by_cases hw : 86400000 ≤ b - a
    · rw [if_pos hw]
      have z3 : decide ((86400000 : Int) ≤ wrap64 (b - a)) = true := decide_eq_true (by unfold wrap64; omega)
      clear g1 g2 g3
      refine lay_start ?_
      go_enter Tryz.func19, Tryz.ntmps19
      go_wp2_with (first | (go_at_call 36; refine (HV.out _).mono ?_; rintro e w' ⟨rfl, dV, rfl⟩))
      refine (HI.out _ _ (by simp only [lay_size, shp, posn, List.sum_cons, List.sum_nil]; omega) (fun d => by simp [go_sem])).mono ?_
      rintro e w' ⟨rfl, dJ, rfl⟩
      rw [lay_bw]
      go_wp2_with fail
      refine region_mixP [(0, 0), (1, 0), (2, 0), (3, 0), (4, 0), (5, 0), (6, 0), (7, 0), (9, 0), (8, 1), (10, 1), (11, 0)] (by kernel_rfl) (by kernel_rfl) (by kernel_rfl) (by kernel_rfl) (by decide) (by kernel_rfl) ?_
      simp only [List.drop_succ_cons, List.drop_zero, List.length_cons, List.length_nil, Nat.reduceAdd]
      iterate 9 (refine wpMP_quiet rfl (fun K hK => ?_); go_simp; refine hK _ ?_; clear hK K)
      refine wpMP_special rfl (fun K hK d0 => ?_)
      go_simp
      refine (HT.out _).mono ?_
      rintro e w' ⟨tA, tc, dT, rfl, rfl, -, hS⟩
      rw [lay_bw] at hS
      have HS := Lib.hid hS
      clear hS
      refine ⟨_, rfl, ?_⟩
      go_simp
      refine hK _ _ (lay_in w [_, _] _) ?_
      clear hK K
      refine wpMP_special rfl (fun K hK d2 => ?_)
      go_simp
      have h10 := HCn.out _ _ (slG_on (A := [.inr d2]) HS.out)
      simp only [List.cons_append, List.nil_append] at h10
      refine h10.mono ?_
      rintro e w' ⟨rfl, hw2⟩
      clear h10
      subst hw2
      refine ⟨_, rfl, ?_⟩
      go_simp
      refine hK _ _ (lay_in w [_, _, _] _) ?_
      clear hK K
      refine wpMP_quiet rfl (fun K hK => ?_); go_simp; refine hK _ ?_; clear hK K
      refine wpMP_nil ?_
      intro d1
      rw [lay_bw]
      go_wp2_with fail
      all_goals exact bodyPost_ret (v := .tuple #[(.agg #[.int .i64 (0), .int .i64 (0), .int .i64 (0), .int .i64 (0), .int .i64 (0), .int .i64 (0), .int .i64 (0), .int .i64 (0)]), .int .i64 24]) (by simp [results, Tryz.results19, go_sem]) rfl ⟨rfl, lay_ex _ _⟩
    · rw [if_neg hw]
      have HBo2 := Lib.hid (fun L => HBo.out L (by omega))
      have z3 : decide ((86400000 : Int) ≤ wrap64 (b - a)) = false := decide_eq_false (by unfold wrap64; omega)
      have z4 : ¬ (0 : Int) ≤ -1 := by decide
      clear g1 g2 g3 HBo
      rcases h0e with e | e
      · subst e
        refine lay_start ?_
        go_enter Tryz.func19, Tryz.ntmps19
        go_wp2_with (first | (go_at_call 36; refine (HV.out _).mono ?_; rintro e w' ⟨rfl, dV, rfl⟩))
        refine (HI.out _ _ (by simp only [lay_size, shp, posn, List.sum_cons, List.sum_nil]; omega) (fun d => by simp [go_sem])).mono ?_
        rintro e w' ⟨rfl, dJ, rfl⟩
        rw [lay_bw]
        go_wp2_with fail
        refine region_mixP [(0, 0), (1, 0), (2, 0), (3, 0), (4, 0), (5, 0), (6, 0), (7, 0), (9, 0), (8, 1), (10, 1), (11, 0)] (by kernel_rfl) (by kernel_rfl) (by kernel_rfl) (by kernel_rfl) (by decide) (by kernel_rfl) ?_
        simp only [List.drop_succ_cons, List.drop_zero, List.length_cons, List.length_nil, Nat.reduceAdd]
        iterate 9 (refine wpMP_quiet rfl (fun K hK => ?_); go_simp; refine hK _ ?_; clear hK K)
        refine wpMP_special rfl (fun K hK d0 => ?_)
        go_simp
        refine (HT.out _).mono ?_
        rintro e w' ⟨tA, tc, dT, rfl, rfl, -, hS⟩
        rw [lay_bw] at hS
        have HS := Lib.hid hS
        clear hS
        refine ⟨_, rfl, ?_⟩
        go_simp
        refine hK _ _ (lay_in w [_, _] _) ?_
        clear hK K
        refine wpMP_special rfl (fun K hK d2 => ?_)
        go_simp
        have h10 := HCn.out _ _ (slG_on (A := [.inr d2]) HS.out)
        simp only [List.cons_append, List.nil_append] at h10
        refine h10.mono ?_
        rintro e w' ⟨rfl, hw2⟩
        clear h10
        subst hw2
        refine ⟨_, rfl, ?_⟩
        go_simp
        refine hK _ _ (lay_in w [_, _, _] _) ?_
        clear hK K
        refine wpMP_quiet rfl (fun K hK => ?_); go_simp; refine hK _ ?_; clear hK K
        refine wpMP_nil ?_
        intro d1
        rw [lay_bw]
        go_wp2_with (go_at_call 44; refine (HBo2.out _).mono ?_; rintro e w' ⟨rfl, dM, rfl⟩)
        all_goals exact bodyPost_ret (v := .tuple #[(.agg #[.int .i64 (r1), .int .i64 (r2), .int .i64 (r3), .int .i64 (r4), .int .i64 (r5), .int .i64 (r6), .int .i64 (r7), .int .i64 (r8)]), .int .i64 0]) (by simp [results, Tryz.results19, go_sem]) rfl ⟨rfl, lay_ex _ _⟩
      · subst e
        have h0 := HR0.out rfl
        unfold g0 at h0
        cases h0
        refine lay_start ?_
        go_enter Tryz.func19, Tryz.ntmps19
        go_wp2_with (first | (go_at_call 36; refine (HV.out _).mono ?_; rintro e w' ⟨rfl, dV, rfl⟩))
        refine (HI.out _ _ (by simp only [lay_size, shp, posn, List.sum_cons, List.sum_nil]; omega) (fun d => by simp [go_sem])).mono ?_
        rintro e w' ⟨rfl, dJ, rfl⟩
        rw [lay_bw]
        go_wp2_with fail
        refine region_mixP [(0, 0), (1, 0), (2, 0), (3, 0), (4, 0), (5, 0), (6, 0), (7, 0), (9, 0), (8, 1), (10, 1), (11, 0)] (by kernel_rfl) (by kernel_rfl) (by kernel_rfl) (by kernel_rfl) (by decide) (by kernel_rfl) ?_
        simp only [List.drop_succ_cons, List.drop_zero, List.length_cons, List.length_nil, Nat.reduceAdd]
        iterate 9 (refine wpMP_quiet rfl (fun K hK => ?_); go_simp; refine hK _ ?_; clear hK K)
        refine wpMP_special rfl (fun K hK d0 => ?_)
        go_simp
        refine (HT.out _).mono ?_
        rintro e w' ⟨tA, tc, dT, rfl, rfl, -, hS⟩
        rw [lay_bw] at hS
        have HS := Lib.hid hS
        clear hS
        refine ⟨_, rfl, ?_⟩
        go_simp
        refine hK _ _ (lay_in w [_, _] _) ?_
        clear hK K
        refine wpMP_special rfl (fun K hK d2 => ?_)
        go_simp
        have h10 := HCn.out _ _ (slG_on (A := [.inr d2]) HS.out)
        simp only [List.cons_append, List.nil_append] at h10
        refine h10.mono ?_
        rintro e w' ⟨rfl, hw2⟩
        clear h10
        subst hw2
        refine ⟨_, rfl, ?_⟩
        go_simp
        refine hK _ _ (lay_in w [_, _, _] _) ?_
        clear hK K
        refine wpMP_quiet rfl (fun K hK => ?_); go_simp; refine hK _ ?_; clear hK K
        refine wpMP_nil ?_
        intro d1
        rw [lay_bw]
        go_wp2_with (go_at_call 44; refine (HBo2.out _).mono ?_; rintro e w' ⟨rfl, dM, rfl⟩)
        all_goals exact bodyPost_ret (v := .tuple #[(.agg #[.int .i64 (0), .int .i64 (0), .int .i64 (0), .int .i64 (0), .int .i64 (0), .int .i64 (0), .int .i64 (0), .int .i64 (0)]), .int .i64 20]) (by simp [results, Tryz.results19, go_sem]) rfl ⟨rfl, lay_ex _ _⟩
theorem alm_Where {P : Nat → Prop} (bk : Nat) (vd vp vs : Value) (lp : List PgV) (ls : List StarV) (s : ByteArray) (a b : Int) (w : World) (hB : BkL P w bk vd vp vs lp) (hv : SlG stR w vs ls) (hc : catB ls = true) :
    Calls Tryz.prog 19 #[.pointer (some ⟨bk, 0, none⟩), .string s, (.agg #[.int .i64 (a), .int .i64 (b)])] w fun e w' => e = .returned (.tuple #[gv (whR lp ls s a b).1, .int .i64 (whR lp ls s a b).2]) ∧ ∃ d, w' = bw w d := by
  cases whW lp ls s a b with
  | bad h => rw [whR_bad h]; exact alm_Where_bad bk s a b w h
  | name h k =>
    rw [whR_name h k]
    unfold knownB at k
    simp only [Bool.or_eq_false_iff, decide_eq_false_iff_not] at k
    obtain ⟨⟨k1, k2⟩, k3⟩ := k
    have hi : fndS ls s = -1 := by
      rcases idxR_bd (fun x : StarV => nmB x.s s) ls 0 with h | h
      · exact h
      · unfold fndS at k2; omega
    have := alm_Where_three bk vd vp vs lp ls s a b w hB hv h k1 hi
    rw [if_pos k3] at this
    exact this
  | wide h k d =>
    rw [whR_wide h k d]
    cases h4 : isA s
    · rcases idxR_cases (fun x : StarV => nmB x.s s) ls with ⟨h5, h6⟩ | ⟨i, x, h5, h6, h7, h8⟩
      · have := alm_Where_three bk vd vp vs lp ls s a b w hB hv h h4 h5
        unfold knownB at k
        rw [h4, show fndS ls s = -1 from h5] at k
        rw [if_neg (by simpa using k), if_pos d] at this
        exact this
      · exact alm_Where_wide2 bk vd vp vs ls i s a b w hB.bk hv h d h4 h5
    · exact alm_Where_wide1 bk vd vp vs ls s a b w hB.bk hv h d h4
  | aries h d k =>
    rw [whR_aries h d k]
    exact alm_Where_aries bk vd vp vs ls s a b w hB.bk hv (isA_list k) h d
  | star i x h d k f g e =>
    rw [whR_star h d k f e]
    obtain ⟨cn, cnum, cf⟩ := (catB_iff.1 hc).ok i x g
    obtain ⟨⟨h0, h1⟩, ⟨y0, y1⟩, -, -⟩ : (0 ≤ x.sha ∧ x.sha ≤ 215999) ∧ (-54000 ≤ x.dec ∧ x.dec ≤ 54000) ∧ -20 ≤ x.mag ∧ x.mag ≤ 150 := by simpa [numB] using cnum
    exact alm_Where_star bk vd vp vs ls i x s a b w hB.bk hv g f (isA_list k) h d h0 h1 y0 y1
  | body h d k f g c =>
    rw [whR_body h d k g c]
    have := alm_Where_three bk vd vp vs lp ls s a b w hB hv h k f
    rw [if_neg (by rw [c]; decide), if_neg (by omega)] at this
    exact this
end Go.Proofs.YtjfpgpipbooilaaGreat
/- The reference's Where. -/
namespace Go.Proofs.YtjfpgpipbooilaaGreat
open Go.RowKit Go.Shelf

structure RfL (P : Nat → Prop) (w : World) (vp vs : Value) (lp : List PgV) (ls : List StarV) : Prop where
  pgs : PgsD P w vp lp
  sts : SlG stR w vs ls
  ok : ∀ p ∈ lp, PgOk p
  few : lp.length ≤ 40
  cat : catB ls = true
theorem RfL.fewL {P : Nat → Prop} {w : World} {vp vs : Value} {lp : List PgV} {ls : List StarV} (h : RfL P w vp vs lp ls) : Few lp := ⟨by have := h.few; omega, fun p hp => by have := (h.ok p hp).len; omega⟩
theorem RfL.bodies {P : Nat → Prop} {w : World} {vp vs : Value} {lp : List PgV} {ls : List StarV} (h : RfL P w vp vs lp ls) : Hid (∀ L, Calls Tryz.prog 15 #[.agg #[vp, vs]] (lay w L) (StrOwn (lay w L) ([ariesS] ++ tkL lp ++ ls.map StarV.s))) :=
  Lib.hid (fun L => ref17_Bodies vp vs lp ls (lay w L) (h.pgs.lay L) h.fewL (h.sts.lay L) (by have := (catB_iff.1 h.cat).len; omega))
end Go.Proofs.YtjfpgpipbooilaaGreat
/- The reference's Where at tracks, and in full. -/
namespace Go.Proofs.YtjfpgpipbooilaaGreat
open Go.RowKit Go.Shelf

end Go.Proofs.YtjfpgpipbooilaaGreat
/- almanac.New by its error number; the law's made in full; a book that is made. -/
namespace Go.Proofs.YtjfpgpipbooilaaGreat
open Go.RowKit Go.Shelf

structure NewOk (lp : List PgV) (ls : List StarV) : Prop where
  few : lp.length ≤ 40
  ok : ∀ p ∈ lp, PgOk p
  cat : catB ls = true
  ord : OrdK lp lp.length
  tw : twB lp ls = false
theorem newE_0 {lp : List PgV} {ls : List StarV} (h : newE lp ls = 0) : NewOk lp ls := by
  unfold newE at h
  split at h
  · cases h
  · split at h
    · cases h
    · rename_i h1 h2
      split at h
      · cases h
      · rename_i h3
        split at h
        · cases h
        · rename_i h4
          rw [not_or] at h2
          have hb : badP lp = false := by cases e : badP lp; rfl; exact absurd e h2.1
          exact ⟨by omega, bad_all hb, by cases e : catB ls; exact absurd e h2.2; rfl, by simpa using h3, by cases e : twB lp ls; rfl; exact absurd e h4⟩
theorem alm_New_yes {P : Nat → Prop} (vp vs : Value) (lp : List PgV) (ls : List StarV) (w : World) (hp : PgsD P w vp lp) (hP : ∀ b, P b → b < w.heap.size) (hv : SlG stR w vs ls) (h : newE lp ls = 0) :
    Calls Tryz.prog 23 #[vp, vs] w (NewPost w lp ls) := by
  have h1 : ¬ 40 < lp.length := fun h1 => by have := newE_full (ls := ls) h1; omega
  have h2 : ¬ (badP lp = true ∨ catB ls = false) := fun h2 => by have := newE_arg (by omega) h2; omega
  rw [not_or] at h2
  have hb : badP lp = false := by cases e : badP lp; rfl; exact absurd e h2.1
  have hc : catB ls = true := by cases e : catB ls; exact absurd e h2.2; rfl
  refine (alm_New_main vp vs lp ls w hp hP hv (by omega) hb hc).mono fun e w' hh => ?_
  rcases hh with ⟨o, t, k⟩ | ⟨o, t, k⟩ | ⟨o, k⟩
  · exact k
  · have := newE_tw (by omega) hb hc o t; omega
  · have := newE_ord (by omega) hb hc o; omega
theorem BkA.bw {w : World} {bk : Nat} {lp : List PgV} {ls : List StarV} {W : World} (h : BkA w bk lp ls W) (L : List (Obj ⊕ Ext)) : BkA w bk lp ls (lay W L) := by
  obtain ⟨h0, vd, vp, vs, h1, h2, h3, h4, h5, h6⟩ := h
  exact ⟨h0, vd, vp, vs, h1.lay L, h2.lay L, h3, h4.lay L, h5.lay L, h6⟩
theorem BkA.open {w : World} {bk : Nat} {lp : List PgV} {ls : List StarV} {W : World} (h : BkA w bk lp ls W) (k : NewOk lp ls) : ∃ vd vp vs, BkL (fun b => w.heap.size ≤ b ∧ b ≠ bk) W bk vd vp vs lp ∧ SlG stR W vs ls := by
  obtain ⟨h0, vd, vp, vs, h1, h2, h3, h4, h5, h6⟩ := h
  exact ⟨vd, vp, vs, ⟨h1, h2, h4, k.ord, k.ok, k.few⟩, h5⟩
theorem made_Where {w : World} {bk : Nat} {lp : List PgV} {ls : List StarV} {W : World} (h : BkA w bk lp ls W) (k : NewOk lp ls) : Hid (∀ s a b L, Calls Tryz.prog 19 #[.pointer (some ⟨bk, 0, none⟩), .string s, (.agg #[.int .i64 (a), .int .i64 (b)])] (lay W L) fun e w' => e = .returned (.tuple #[gv (whR lp ls s a b).1, .int .i64 (whR lp ls s a b).2]) ∧ ∃ d, w' = bw (lay W L) d) := by
  obtain ⟨vd, vp, vs, h1, h2⟩ := h.open k
  exact Lib.hid (fun s a b L => alm_Where bk vd vp vs lp ls s a b (lay W L) (h1.lay L) (h2.lay L) k.cat)
end Go.Proofs.YtjfpgpipbooilaaGreat

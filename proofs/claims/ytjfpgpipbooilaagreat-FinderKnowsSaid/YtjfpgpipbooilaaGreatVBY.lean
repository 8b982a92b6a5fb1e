/- Contracts and plain laws, several texts in one: Fk4 -/
import Derived.Test.YtjfpgpipbooilaaGreatProg
import Derived.WalkKit
import Derived.WalkSpells
import Derived.WalkLawsBesides
import Derived.Lib.Hide
import Derived.BigQuiet
import Derived.Test.YtjfpgpipbooilaaGreatVAA
import Derived.Test.YtjfpgpipbooilaaGreatVAB
import Derived.Test.YtjfpgpipbooilaaGreatVBT
import Derived.Test.YtjfpgpipbooilaaGreatVBV
import Derived.Test.YtjfpgpipbooilaaGreatVBW
import Derived.Test.YtjfpgpipbooilaaGreatVBX
/- The law FinderKnows. -/
namespace Go.Proofs.YtjfpgpipbooilaaGreat
open Go.RowKit Go.Shelf

theorem made_LhaB {w : World} {bk : Nat} {lp : List PgV} {ls : List StarV} {W : World} (h : BkA w bk lp ls W) (k : NewOk lp ls) (s : ByteArray) (a b x y : Int) :
    Hid (∀ W', Below W.heap.size W W' → Calls Tryz.prog 17 #[.pointer (some ⟨bk, 0, none⟩), .string s, (.agg #[.int .i64 (a), .int .i64 (b)]), (.agg #[.int .i64 (x), .int .i64 (y)])] W' fun e w' => e = .returned (.tuple #[(.agg #[.int .i64 (lhaL lp ls s a b x y), .int .i64 (lhaH lp ls s a b x y)]), .int .i64 (lhaE lp ls s a b x y)]) ∧ ∃ d, w' = bw W' d) :=
  Lib.hid (fun W' hW => by obtain ⟨d, rfl⟩ := bw_of hW; exact made_Lha h k s a b x y [.inr d])
theorem made_WhereB {w : World} {bk : Nat} {lp : List PgV} {ls : List StarV} {W : World} (h : BkA w bk lp ls W) (k : NewOk lp ls) (s : ByteArray) (a b : Int) :
    Hid (∀ W', Below W.heap.size W W' → Calls Tryz.prog 19 #[.pointer (some ⟨bk, 0, none⟩), .string s, (.agg #[.int .i64 (a), .int .i64 (b)])] W' fun e w' => e = .returned (.tuple #[gv (whR lp ls s a b).1, .int .i64 (whR lp ls s a b).2]) ∧ ∃ d, w' = bw W' d) :=
  Lib.hid (fun W' hW => by obtain ⟨d, rfl⟩ := bw_of hW; exact (made_Where h k).out s a b [.inr d])
set_option maxHeartbeats 8000000 in
set_option maxRecDepth 100000 in
theorem law51_Knows {P : Nat → Prop} (vp vs : Value) (lp : List PgV) (ls : List StarV) (wh t u x wd n bf af : Int) (w : World) (hp : PgsD P w vp lp) (hP : ∀ b, P b → b < w.heap.size) (hv : SlG stR w vs ls)
    (i0 : 0 ≤ wh) (i1 : wh ≤ 255) (w0 : 0 ≤ wd) (w1 : wd ≤ 65535) (n0 : 0 ≤ n) (n1 : n ≤ 65535) (b0 : 0 ≤ bf) (b1 : bf ≤ 65535) (f0 : 0 ≤ af) (f1 : af ≤ 65535) :
    Calls Tryz.prog 4 #[vp, vs, .int .u8 wh, .int .i64 t, (.agg #[.int .i64 (u), .int .i64 (x)]), .int .u16 wd, .int .u16 n, .int .u16 bf, .int .u16 af] w fun e w' => e = .returned (.bool true) ∧ ∃ d, w' = bw w d := by
  have HA := Lib.hid (fun W => law51_awake W)
  have HB := Lib.hid (fun L => law51_book vp vs lp ls (lay w L) (hp.lay L) (fun b hb => Nat.lt_of_lt_of_le (hP b hb) (lay_extends w L).size) (hv.lay L))
  have HBd := Lib.hid (fun k => (rfL_of hp hv k).bodies)
  obtain ⟨sa, sc, rfl⟩ := hv.form
  obtain ⟨pa, pc, rfl⟩ := pgs_form hp
  generalize ls.length = ns at *
  generalize lp.length = np at *
  clear hp hP hv
  refine lay_start ?_
  go_enter Tryz.func4, Tryz.ntmps4
  go_wp2_with (go_at_call 5; refine (HA.out _).mono ?_; rintro e w' ⟨rfl, d1, rfl⟩; rw [lay_bw])
  refine (HB.out _).mono ?_
  rintro e w' (⟨rfl, db, rfl⟩ | ⟨hE, bk, w2, db, rfl, rfl, hBk⟩)
  · rw [lay_bw]
    go_wp2_with fail
    go_ret
    exact ⟨by first | rfl | simp, lay_ex _ _⟩
  rw [lay_bw] at hBk ⊢
  have hk := newE_0 hE
  have HB2 := (HBd.out hk)
  clear HA HB HBd hE
  go_wp2_with fail
  refine (HB2.out _).mono ?_
  rintro e w' ⟨vl, dl, rfl, rfl, hl⟩
  rw [lay_bw] at hl ⊢
  have hlen : 0 < ([ariesS] ++ tkL lp ++ ls.map StarV.s).length := by simp
  have hlm := nmL_len hk
  have HN : Hid (nmL lp ls = [ariesS] ++ tkL lp ++ ls.map StarV.s) := Lib.hid rfl
  unfold nmL at hlm
  generalize [ariesS] ++ tkL lp ++ ls.map StarV.s = T at *
  clear HB2
  obtain ⟨g, cc, rfl, -, -, -⟩ := hl.form1 hlen
  obtain ⟨m, hm⟩ : ∃ m, T.length = m := ⟨_, rfl⟩
  obtain ⟨j, hj⟩ : ∃ j : Nat, wh.toNat % m = j := ⟨_, rfl⟩
  have hjm : j < m := by rw [← hj]; exact Nat.mod_lt _ (by omega)
  obtain ⟨s, hs⟩ : ∃ s, T[j]? = some s := ⟨_, List.getElem?_eq_getElem (by omega)⟩
  have kj : wh % (m : Int) = (j : Int) := by rw [← hj, Int.natCast_emod, Int.toNat_of_nonneg i0]
  have c0 : (lay w [.inr dl, .inl (.cells #[.slice pa np pc, .slice sa ns sc] 33 (0, 0)), .inr db, .inr d1, .inl (.cells #[.int .i64 u, .int .i64 x] 52 (0, 0))]).cell? ⟨g, j, none⟩ = some (.string s) := by simpa [strR] using hl.cell strOk hs (j := 0) (u := .string s) rfl
  have hsn : s ∈ nmL lp ls := by rw [HN.out]; exact List.mem_of_getElem? hs
  rw [hm] at hlm hlen ⊢
  have x0 : (0 : Int) ≤ (j : Int) := by omega
  have x1 : (j : Int) < (m : Int) := by omega
  have HPt := Lib.hid (fun W => r8_Point u x W)
  have HQ := Lib.hid (fun n W => law51_point n W)
  clear hl hm hs HN hj
  cases hA : isA s
  rotate_left
  · have hA' := isA_list hA
    clear hBk hk hsn hA
    go_wp2_with fail
    go_ret
    exact ⟨by first | rfl | simp, lay_ex _ _⟩
  have hA' := isA_list hA
  by_cases ht : t < -35184372088832
  · clear hBk hk hsn
    go_wp2_with fail
    go_ret
    exact ⟨by first | rfl | simp, lay_ex _ _⟩
  by_cases ht2 : (35184372088832 : Int) < t
  · clear hBk hk hsn
    go_wp2_with fail
    go_ret
    exact ⟨by first | rfl | simp, lay_ex _ _⟩
  cases hp : ptB u x
  · rw [hp] at HPt
    clear hBk hk hsn
    go_wp2_with (go_at_call 16; refine (HPt.out _).mono ?_; rintro e w' ⟨rfl, dp, rfl⟩; rw [lay_bw])
    go_ret
    exact ⟨by first | rfl | simp, lay_ex _ _⟩
  rw [hp] at HPt
  have hp2 := pt_plc hp
  have hp3 := ptB_iff.1 hp
  have htt : timB t t = true := timB_iff.2 (by omega)
  have hE : lhaE lp ls s t t x x = (whR lp ls s t t).2 := by unfold lhaE; rw [if_neg (by rw [htt, hp2.2.2]; simp)]
  have HL := made_LhaB hBk hk s t t x x
  have HW := made_WhereB hBk hk s t t
  rw [gv_eta] at HW
  by_cases h0 : (whR lp ls s t t).2 = 0
  rotate_left
  · have h0' : ((whR lp ls s t t).2 != 0) = true := by simpa using h0
    rw [hE] at HL
    clear hE hBk hk hsn
    generalize (whR lp ls s t t).2 = E at *
    generalize (whR lp ls s t t).1 = G at *
    obtain ⟨r1, r2, r3, r4, r5, r6, r7, r8⟩ := G
    generalize lhaL lp ls s t t x x = L0 at *
    generalize lhaH lp ls s t t x x = L1 at *
    dsimp only at HW
    go_wp2_with (first | (go_at_call 16; refine (HPt.out _).mono ?_; rintro e w' ⟨rfl, dp, rfl⟩; rw [lay_bw]) | (go_at_call 18; refine (HQ.out _ _).mono ?_; rintro e w' ⟨rfl, dq, rfl⟩; rw [lay_bw]))
    refine (HL.out _ (lay_belowG (A := [_, _, _, _]))).mono ?_
    rintro e w' ⟨rfl, dL, rfl⟩
    rw [lay_bw]
    simp only [List.cons_append, List.nil_append]
    go_wp2_with fail
    refine (HW.out _ (lay_belowG (A := [_, _, _, _, _, _]))).mono ?_
    rintro e w' ⟨rfl, dW, rfl⟩
    rw [lay_bw]
    simp only [List.cons_append, List.nil_append]
    go_wp2_with fail
    go_ret
    exact ⟨by first | rfl | simp, lay_ex _ _⟩
  rw [hE, h0] at HL
  rw [h0] at HW
  rw [h0] at hE
  have tri := (kn_ok (u := u) hk hp hE).tr
  have HS := Lib.hid (fun W => cos_Solve u u (whR lp ls s t t).1.c (whR lp ls s t t).1.d (lhaL lp ls s t t x x) (lhaH lp ls s t t x x) W tri)
  have bd := al_bd tri
  have zb : 0 ≤ (azF u u (whR lp ls s t t).1.c (whR lp ls s t t).1.d (lhaL lp ls s t t x x) (lhaH lp ls s t t x x)).1 ∧ (azF u u (whR lp ls s t t).1.c (whR lp ls s t t).1.d (lhaL lp ls s t t x x) (lhaH lp ls s t t x x)).1 ≤ (azF u u (whR lp ls s t t).1.c (whR lp ls s t t).1.d (lhaL lp ls s t t x x) (lhaH lp ls s t t x x)).2 ∧ (azF u u (whR lp ls s t t).1.c (whR lp ls s t t).1.d (lhaL lp ls s t t x x) (lhaH lp ls s t t x x)).2 ≤ 43200000 := brF_bd _ _ _ _
  have HKn := Lib.hid (fun (h : (whR lp ls s (t - bf) (t + af)).2 = 0) => knows_in (wd := wd) hk hsn hA b0 f0 h hp hE n0 n1 w0)
  have HV := made_WhereB hBk hk s (t - bf) (t + af)
  rw [gv_eta] at HV
  have ht3 : timB (t - bf) (t + af) = true := timB_iff.2 (by omega)
  have HId := fn_IdentifyB hBk hk ht3 (by omega) (knows_plc hp n0 n1)
  generalize alL u u (whR lp ls s t t).1.c (whR lp ls s t t).1.d (lhaL lp ls s t t x x) (lhaH lp ls s t t x x) = A0 at *
  generalize alH u u (whR lp ls s t t).1.c (whR lp ls s t t).1.d (lhaL lp ls s t t x x) (lhaH lp ls s t t x x) = A1 at *
  generalize (azF u u (whR lp ls s t t).1.c (whR lp ls s t t).1.d (lhaL lp ls s t t x x) (lhaH lp ls s t t x x)).1 = Z0 at *
  generalize (azF u u (whR lp ls s t t).1.c (whR lp ls s t t).1.d (lhaL lp ls s t t x x) (lhaH lp ls s t t x x)).2 = Z1 at *
  generalize lhaL lp ls s t t x x = L0 at *
  generalize lhaH lp ls s t t x x = L1 at *
  generalize cndL lp ls (t - bf) (t + af) (mx (-5400000) (u - n)) (mn 5400000 (u + n)) x (x + n) = C at *
  obtain ⟨ew, hew⟩ : ∃ ew, (whR lp ls s (t - bf) (t + af)).2 = ew := ⟨_, rfl⟩
  rw [hew] at HV HKn
  clear tri hE h0 hew hBk hk hsn
  generalize (whR lp ls s t t).1 = G at *
  generalize (whR lp ls s (t - bf) (t + af)).1 = F at *
  obtain ⟨r1, r2, r3, r4, r5, r6, r7, r8⟩ := G
  obtain ⟨q1, q2, q3, q4, q5, q6, q7, q8⟩ := F
  dsimp only at HW HV HS
  have k1 : IntKind.i64.wrap wd = wd := IntWalk.i64_in _ (by omega)
  have k2 : IntKind.i64.wrap n = n := IntWalk.i64_in _ (by omega)
  have k3 : IntKind.i64.wrap bf = bf := IntWalk.i64_in _ (by omega)
  have k4 : IntKind.i64.wrap af = af := IntWalk.i64_in _ (by omega)
  have k5 : IntKind.i64.wrap (A0 - wd) = A0 - wd := IntWalk.i64_in _ (by omega)
  have k6 : IntKind.i64.wrap (A1 + wd) = A1 + wd := IntWalk.i64_in _ (by omega)
  have k7 : IntKind.i64.wrap (Z0 - wd) = Z0 - wd := IntWalk.i64_in _ (by omega)
  have k8 : IntKind.i64.wrap (Z1 + wd) = Z1 + wd := IntWalk.i64_in _ (by omega)
  have k9 : IntKind.i64.wrap (u - n) = u - n := IntWalk.i64_in _ (by omega)
  have ka : IntKind.i64.wrap (u + n) = u + n := IntWalk.i64_in _ (by omega)
  have kb : IntKind.i64.wrap (x + n) = x + n := IntWalk.i64_in _ (by omega)
  have kc : IntKind.i64.wrap (t - bf) = t - bf := IntWalk.i64_in _ (by omega)
  have kd : IntKind.i64.wrap (t + af) = t + af := IntWalk.i64_in _ (by omega)
  have hlat : latB (mx (-5400000) (A0 - wd)) (mn 5400000 (A1 + wd)) = true := by rw [latB_iff, mx_eq, mn_eq]; omega
  have hval : validB (Z0 - wd) (Z1 + wd) = true := by rw [validB_iff]; omega
  have HF := Lib.hid (And.intro hlat hval)
  clear hlat hval bd zb hp hp2 hp3 htt ht3 b0 b1 f0 f1 n0 n1 w0 w1
  go_wp2_with (first | (go_at_call 16; refine (HPt.out _).mono ?_; rintro e w' ⟨rfl, dp, rfl⟩; rw [lay_bw]) | (go_at_call 18; refine (HQ.out _ _).mono ?_; rintro e w' ⟨rfl, dq, rfl⟩; rw [lay_bw]))
  refine (HL.out _ (lay_belowG (A := [_, _, _, _]))).mono ?_
  rintro e w' ⟨rfl, dL, rfl⟩
  rw [lay_bw]
  simp only [List.cons_append, List.nil_append]
  go_wp2_with fail
  refine (HW.out _ (lay_belowG (A := [_, _, _, _, _, _]))).mono ?_
  rintro e w' ⟨rfl, dW, rfl⟩
  rw [lay_bw]
  simp only [List.cons_append, List.nil_append]
  go_wp2_with fail
  refine region_mixW [0, 0, 0, 0, 0, 0, 0, 0, 0, 0, 0, 1, 1, 0] (by kernel_rfl) (by kernel_rfl) (by kernel_rfl) ?_
  repeat (first | (refine wpM_quiet (fun K hK => ?_); go_simp; first | (refine hK _ ?_; clear hK K) | (apply Exists.intro; refine ⟨fun _ => ?_, hK _ ?_⟩; (first | (go_at_call 18; exact bq (HQ.out _ _) (fun d => ⟨d, rfl⟩)) | (go_at_call 20; exact bq (HS.out _) (fun d => ⟨d, rfl⟩))); clear hK K)) | (refine wpM_special (fun K hK d => ?_); go_simp; refine hK _ _ (by first | exact lay_in w [_] _ | exact lay_in w [_, _] _ | exact lay_in w [_, _, _] _ | exact lay_in w [_, _, _, _] _ | exact lay_in w [_, _, _, _, _] _ | exact lay_in w [_, _, _, _, _, _] _) ?_; clear hK K))
  refine wpM_nil ?_
  intro d
  rw [lay_bw]
  go_wp2_with fail
  refine (HV.out _ (lay_belowG (A := [_, _, _, _, _, _, _, _, _, _, _, _, _, _, _, _]))).mono ?_
  rintro e w' ⟨rfl, dV, rfl⟩
  rw [lay_bw]
  simp only [List.cons_append, List.nil_append]
  by_cases hew : ew = 0
  · subst hew
    go_wp2_with fail
    refine (HId.out _ _ _ _ _ (lay_belowG (A := [_, _, _, _, _, _, _, _, _, _, _, _, _, _, _, _, _, _])) HF.out.1 HF.out.2).mono ?_
    rintro e w' ⟨va, da, rfl, rfl, hA⟩
    rw [lay_bw] at hA ⊢
    simp only [List.cons_append, List.nil_append] at hA ⊢
    have hc := (Lib.containsS_iff _ _).2 (HKn.out (by simp))
    have HC := Lib.hid (str_Contains va _ s _ (hA.sl strOk))
    rw [hc] at HC
    clear hA hc HKn HId HF HV HW HL HS HPt HQ
    generalize idL C _ _ _ _ = LC at *
    go_wp2_with (go_at_call 14; refine HC.out.mono ?_; rintro e w' ⟨rfl, rfl⟩)
    go_ret
    exact ⟨by first | rfl | simp, lay_ex _ _⟩
  · have hew1 : (ew != 0) = true := by simpa using hew
    go_wp2_with fail
    go_ret
    exact ⟨by first | rfl | simp, lay_ex _ _⟩
end Go.Proofs.YtjfpgpipbooilaaGreat

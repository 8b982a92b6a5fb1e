/- Contracts and plain laws, several texts in one: JnG; JnH; MixC; MixS; LgW; LgX -/
import Derived.Test.YtcbicpbbjbkiaaaGreatDoorProg
import Derived.WalkKit
import Derived.WalkSpells
import Derived.WalkLawsBesides
import Derived.Lib.Hide
import Derived.BigQuiet
import Derived.Deep.AppendLies
import Derived.Lib.AppendStr
import Derived.Test.YtcbicpbbjbkiaaaGreatDoorZmAA
import Derived.Test.YtcbicpbbjbkiaaaGreatDoorZmAB
namespace Go.Proofs.YtcbicpbbjbkiaaaGreatDoor
set_option maxHeartbeats 4000000
set_option maxRecDepth 100000
open Go.RowKit

theorem size_shp {w : World} {L1 L2 : List (Obj ⊕ Ext)} (h : shp L1 = shp L2) : (lay w L1).heap.size = (lay w L2).heap.size := by rw [lay_size, lay_size, h]
def whF (l : List Int) : Int := nth (endL l) ((endL l).length - 1)
theorem jn_whole (v : Value) (l : List Int) (sy af : Int) (w : World) (hv : SlG bR w v l) (ho : Old w v) (hl : l.length ≤ 10000000) :
  Calls Tryz.prog 147 #[.agg #[v, .int .i64 sy, .int .i64 af]] w fun e w' => e = .returned (.int .i64 (whF l)) ∧ ∃ d, w' = bw w d := by
 obtain ⟨a, c, rfl⟩ := hv.form
 have HE := Lib.hid (fun L => jn_ends _ l (lay w L) (hv.lay L) (ho.lay L) hl)
 have hpos : 0 < (endL l).length := by unfold endL; simp
 have HW : Hid (nth (endL l) ((endL l).length - 1) = whF l) := Lib.hid rfl
 generalize whF l = W at *
 generalize endL l = E at *
 generalize l.length = m at *
 clear hv ho
 refine lay_start ?_
 go_enter Tryz.func147, Tryz.ntmps147
 go_wp2_with fail
 refine (HE.out _).mono ?_
 rintro e w' ⟨v1, d1, rfl, rfl, h1⟩
 rw [lay_bw] at h1 ⊢
 obtain ⟨g, cap, rfl, -, -, hc1, hc2⟩ := h1.form1 hpos
 have hc := h1.cell (i := E.length - 1) (by omega)
 rw [HW.out] at hc
 clear h1
 obtain ⟨q, hq⟩ : ∃ q, E.length = q := ⟨_, rfl⟩
 rw [hq] at hc hpos hc1 ⊢
 have y5 : (0 : Int) ≤ (q : Int) - 1 := by omega
 have y6 : (q : Int) - 1 < (q : Int) := by omega
 have y7 : ((q : Int) - 1).toNat = q - 1 := by omega
 have y8 : IntKind.i64.wrap ((q : Int) - 1) = q - 1 := IntWalk.i64_in _ (by omega)
 clear hq HW hpos hc1 hc2
 go_wp2_with fail
 exact bodyPost_ret (v := .int .i64 W) (by simp [results, Tryz.results147, go_sem]) rfl ⟨rfl, lay_ex _ _⟩
def DskP (w : World) (l : List Int) (sy af k : Int) (e : Ending) (w' : World) : Prop := ∃ v' d, e = .returned (.tuple #[.agg #[v', .int .i64 sy, .int .i64 af], .int .i64 k]) ∧ w' = bw w d ∧ OwG bR (bw w d) w.heap.size v' l
theorem dskP_zero {w : World} {W : World} {k : Int} (h : ∃ d, W = bw w d) : DskP w [] 0 0 k (.returned (.tuple #[.agg #[.slice none 0 0, .int .i64 0, .int .i64 0], .int .i64 k])) W := by
 obtain ⟨d, rfl⟩ := h
 exact ⟨_, d, rfl, rfl, OwG.nil _ _ _⟩
theorem jn_Sync_ok (v : Value) (l : List Int) (sy af : Int) (w : World) (hv : SlG bR w v l) (ho : Old w v) (hd : dskB l sy af = true) (ha : af ≠ 0) (hw : whF l = l.length) :
  Calls Tryz.prog 76 #[.agg #[v, .int .i64 sy, .int .i64 af]] w (DskP w l l.length af 0) := by
 have hl : l.length ≤ 1048576 := by unfold dskB at hd; simp only [Bool.and_eq_true, decide_eq_true_eq] at hd; exact hd.1.1.1
 have HV := Lib.hid (fun L => jn_Valid v l sy af (lay w L) (hv.lay L) (ho.lay L))
 have HW := Lib.hid (fun L => jn_whole v l sy af (lay w L) (hv.lay L) (ho.lay L) (by omega))
 have HC := Lib.hid (fun L => jn_copied v l sy af (lay w L) (hv.lay L) (by omega))
 rw [hd] at HV
 rw [hw] at HW
 obtain ⟨a, c, rfl⟩ := hv.form
 have z1 : (af == 0) = false := beq_eq_false_iff_ne.2 ha
 obtain ⟨m, hm⟩ : ∃ m, l.length = m := ⟨_, rfl⟩
 have HM := Lib.hid hm
 rw [hm] at HV HW HC ⊢
 have z2 : ((m : Int) != m) = false := by simp
 clear hv ho hd ha hw hm hl
 refine lay_start ?_
 go_enter Tryz.func76, Tryz.ntmps76
 go_wp2_with (go_at_call 140; refine (HV.out _).mono ?_; rintro e w' ⟨rfl, dv, rfl⟩; rw [lay_bw])
 refine region_bw (by kernel_rfl) (by kernel_rfl) ?_
 repeat (go_big_quiet_step ((first | (go_at_call 147; first | ((with_reducible refine bq (HW.out _) ?_); exact (fun d => ⟨d, rfl⟩)) | ((with_reducible refine bq (HW.out _) ?_); exact (fun d => lay_join _ _ _ d))))))
 refine wpQuiet_nil ?_
 rintro w' ⟨d, rfl⟩
 rw [lay_bw]
 go_wp2_with fail
 refine (HC.out _).mono ?_
 rintro e w' ⟨v1, d1, rfl, rfl, h1⟩
 rw [lay_bw] at h1 ⊢
 obtain ⟨va, vc, hve⟩ := h1.form
 rw [HM.out] at hve
 subst hve
 have H1 := Lib.hid h1
 clear h1
 go_wp2_with fail
 obtain ⟨dz, hz⟩ := lay_ex w [.inl (.cells #[.slice va m vc, .int .i64 m, .int .i64 af] 70), .inr d1, .inr d, .inr dv, .inl (.cells #[.slice va m vc, .int .i64 m, .int .i64 af] 70), .inl (.cells #[.slice a m c, .int .i64 sy, .int .i64 af] 70)]
 exact bodyPost_ret (v := .tuple #[.agg #[.slice va m vc, .int .i64 m, .int .i64 af], .int .i64 0]) (by simp [results, Tryz.results76, go_sem]) rfl ⟨_, dz, rfl, hz, by rw [← hz]; exact owG_on (A := [_]) ((owG_swap (W2 := lay w [.inr d, .inr dv, .inl (.cells #[.slice va m vc, .int .i64 m, .int .i64 af] 70), .inl (.cells #[.slice a m c, .int .i64 sy, .int .i64 af] 70)]) H1.out (Nat.le_refl _) (size_shp rfl)).le (by simp [go_sem]))⟩
def appF (l : List Int) (sy af : Int) (b : List Int) : List Int × Int × Int × Int :=
 if 1048576 < l.length + (frF b).length then ([], 0, 0, 4)
 else if af < 0 then (l ++ frF b, sy, af, 0)
 else if af < (frF b).length then (l ++ (frF b).take af.toNat, sy, 0, 19)
 else (l ++ frF b, sy, af - (frF b).length, 0)
theorem jn_Append_ok (v u : Value) (l b : List Int) (sy af : Int) (w : World) (hv : SlG bR w v l) (ho : Old w v) (hn : NilC v) (hu : SlG bR w u b) (hun : NilC u) (hd : dskB l sy af = true) (hb : b.length ≤ 65535) (ha : af ≠ 0) (hw : whF l = l.length) :
  Calls Tryz.prog 75 #[.agg #[v, .int .i64 sy, .int .i64 af], u] w (DskP w (appF l sy af b).1 (appF l sy af b).2.1 (appF l sy af b).2.2.1 (appF l sy af b).2.2.2) := by
 have hd' := hd
 unfold dskB at hd'
 simp only [Bool.and_eq_true, decide_eq_true_eq] at hd'
 obtain ⟨⟨⟨hl, ha0⟩, ha1⟩, -⟩ := hd'
 have HV := Lib.hid (fun L => jn_Valid v l sy af (lay w L) (hv.lay L) (ho.lay L))
 have HW := Lib.hid (fun L => jn_whole v l sy af (lay w L) (hv.lay L) (ho.lay L) (by omega))
 have HF := Lib.hid (fun L => jn_frame u b (lay w L) (hu.lay L) hun (by omega))
 rw [hd] at HV
 rw [hw] at HW
 obtain ⟨a, c, rfl⟩ := hv.form
 obtain ⟨ua, uc, rfl⟩ := hu.form
 have z1 : (af == 0) = false := beq_eq_false_iff_ne.2 ha
 have hfl := frF_len b
 have HVl := Lib.hid hv
 have HNn := Lib.hid hn
 unfold appF
 obtain ⟨F, hF⟩ : ∃ F, frF b = F := ⟨_, rfl⟩
 rw [hF] at HF hfl ⊢
 obtain ⟨f, hf⟩ : ∃ f, F.length = f := ⟨_, rfl⟩
 have HFl := Lib.hid hf
 rw [hf] at hfl ⊢
 obtain ⟨m, hm⟩ : ∃ m, l.length = m := ⟨_, rfl⟩
 have HM := Lib.hid hm
 rw [hm] at HV HW hl ⊢
 obtain ⟨q, hq⟩ : ∃ q, b.length = q := ⟨_, rfl⟩
 rw [hq] at HF hfl hb ⊢
 have z2 : ((m : Int) != m) = false := by simp
 have z3 : ¬ (65535 : Int) < (q : Int) := by omega
 have HF8 := Lib.hid hfl
 have z3n : ¬ 65535 < q := by omega
 have y1 : IntKind.i64.wrap ((m : Int) + f) = m + f := IntWalk.i64_in _ (by omega)
 clear hv ho hn hu hun hd ha hw hm hF hf hq hfl
 by_cases c1 : 1048576 < m + f
 ·rw [if_pos c1]
  have x1 : (1048576 : Int) < (m : Int) + f := by omega
  refine lay_start ?_
  go_enter Tryz.func75, Tryz.ntmps75
  go_wp2_with (go_at_call 140; refine (HV.out _).mono ?_; rintro e w' ⟨rfl, dv, rfl⟩; rw [lay_bw])
  refine region_bw (by kernel_rfl) (by kernel_rfl) ?_
  repeat (go_big_quiet_step ((first | (go_at_call 147; first | ((with_reducible refine bq (HW.out _) ?_); exact (fun d => ⟨d, rfl⟩)) | ((with_reducible refine bq (HW.out _) ?_); exact (fun d => lay_join _ _ _ d))))))
  refine wpQuiet_nil ?_
  rintro w' ⟨d, rfl⟩
  rw [lay_bw]
  go_wp2_with fail
  refine (HF.out _).mono ?_
  rintro e w' ⟨v1, d1, rfl, rfl, h1⟩
  rw [lay_bw] at h1 ⊢
  obtain ⟨g1, vc, hve, -, -, hfc, hfd⟩ := h1.form1 (by rw [HFl.out, HF8.out]; omega)
  rw [HFl.out] at hve hfc
  subst hve
  have H1 := Lib.hid h1
  clear h1
  go_wp2_with fail
  exact bodyPost_ret (v := .tuple #[.agg #[.slice none 0 0, .int .i64 0, .int .i64 0], .int .i64 4]) (by simp [results, Tryz.results75, go_sem]) rfl (dskP_zero (lay_ex _ _))
 ·rw [if_neg c1]
  have x1 : ¬ (1048576 : Int) < (m : Int) + f := by omega
  by_cases c2 : af < 0
  ·rw [if_pos c2]
   have x2 : ¬ 0 ≤ af := by omega
   refine lay_start ?_
   go_enter Tryz.func75, Tryz.ntmps75
   go_wp2_with (go_at_call 140; refine (HV.out _).mono ?_; rintro e w' ⟨rfl, dv, rfl⟩; rw [lay_bw])
   refine region_bw (by kernel_rfl) (by kernel_rfl) ?_
   repeat (go_big_quiet_step ((first | (go_at_call 147; first | ((with_reducible refine bq (HW.out _) ?_); exact (fun d => ⟨d, rfl⟩)) | ((with_reducible refine bq (HW.out _) ?_); exact (fun d => lay_join _ _ _ d))))))
   refine wpQuiet_nil ?_
   rintro w' ⟨d, rfl⟩
   rw [lay_bw]
   go_wp2_with fail
   refine (HF.out _).mono ?_
   rintro e w' ⟨v1, d1, rfl, rfl, h1⟩
   rw [lay_bw] at h1 ⊢
   obtain ⟨g1, vc, hve, -, -, hfc, hfd⟩ := h1.form1 (by rw [HFl.out, HF8.out]; omega)
   rw [HFl.out] at hve hfc
   subst hve
   have H1 := Lib.hid h1
   clear h1
   go_wp2_with fail
   have HSw := Lib.hid (owG_swap (W2 := lay w [.inr d, .inr dv, .inl (.cells #[.slice none 0 0, .int .i64 0, .int .i64 0] 70), .inl (.cells #[.slice a m c, .int .i64 sy, .int .i64 (af)] 70)]) H1.out (Nat.le_refl _) (size_shp rfl))
   have hA : BsA (lay w [.inl (.cells #[.slice a m c, .slice (some ⟨g1, 0, none⟩) (f) vc] 68), .inr d1, .inr d, .inr dv, .inl (.cells #[.slice none 0 0, .int .i64 0, .int .i64 0] 70), .inl (.cells #[.slice a m c, .int .i64 sy, .int .i64 (af)] 70)]) (posn w [d1.n, d.n, dv.n, 1, 1]) [l, F] := by
    refine ⟨by simp [go_sem]; unfold posn; simp, fun j x hx => ?_⟩
    rcases j with _ | _ | j
    ·simp only [List.getElem?_cons_zero, Option.some.injEq] at hx
     subst hx
     exact ⟨_, (by simp [go_sem]; first | done | rfl), by have := HVl.out.lay [.inl (.cells #[.slice a m c, .slice (some ⟨g1, 0, none⟩) (f) vc] 68), .inr d1, .inr d, .inr dv, .inl (.cells #[.slice none 0 0, .int .i64 0, .int .i64 0] 70), .inl (.cells #[.slice a m c, .int .i64 sy, .int .i64 (af)] 70)]; rwa [HM.out] at this, by have := HNn.out; rwa [HM.out] at this⟩
    ·simp only [List.getElem?_cons_succ, List.getElem?_cons_zero, Option.some.injEq] at hx
     subst hx
     exact ⟨_, (by simp [go_sem]; first | done | rfl), (HSw.out.sl bOk).ext (lay_belowG (A := [_]) (B := [.inr d1, .inr d, .inr dv, .inl (.cells #[.slice none 0 0, .int .i64 0, .int .i64 0] 70), .inl (.cells #[.slice a m c, .int .i64 sy, .int .i64 (af)] 70)])), nilc_some⟩
    ·simp at hx
   have hC := sl_Concat (posn w [d1.n, d.n, dv.n, 1, 1]) 2 [l, F] _ hA (by simp only [List.flatten_cons, List.flatten_nil, List.append_nil, List.length_append]; rw [HM.out, HFl.out]; omega) (by simp)
   rw [show [l, F].flatten = l ++ F from by simp] at hC
   refine hC.mono ?_
   rintro e w' ⟨v2, d2, rfl, rfl, h2⟩
   rw [lay_bw] at h2 ⊢
   obtain ⟨vb, vd, hve⟩ := h2.form
   obtain ⟨n2, hn2⟩ : ∃ n2, (l ++ F).length = n2 := ⟨_, rfl⟩
   rw [hn2] at hve
   subst hve
   have H2 := Lib.hid h2
   clear h2 hA hC hn2
   go_wp2_with fail
   obtain ⟨dz, hz⟩ := lay_ex w [.inr d2, .inl (.cells #[.slice a m c, .slice (some ⟨g1, 0, none⟩) (f) vc] 68), .inr d1, .inr d, .inr dv, .inl (.cells #[.slice vb n2 vd, .int .i64 sy, .int .i64 (af)] 70), .inl (.cells #[.slice vb n2 vd, .int .i64 sy, .int .i64 (af)] 70)]
   exact bodyPost_ret (v := .tuple #[.agg #[.slice vb n2 vd, .int .i64 sy, .int .i64 (af)], .int .i64 0]) (by simp [results, Tryz.results75, go_sem]) rfl ⟨_, dz, rfl, hz, by rw [← hz]; exact (owG_swap (W2 := lay w [.inl (.cells #[.slice a m c, .slice (some ⟨g1, 0, none⟩) (f) vc] 68), .inr d1, .inr d, .inr dv, .inl (.cells #[.slice vb n2 vd, .int .i64 sy, .int .i64 (af)] 70), .inl (.cells #[.slice vb n2 vd, .int .i64 sy, .int .i64 (af)] 70)]) H2.out (Nat.le_refl _) (size_shp rfl)).le (by simp [go_sem])⟩
  ·rw [if_neg c2]
   have x2 : 0 ≤ af := by omega
   by_cases c3 : af < (f : Int)
   ·rw [if_pos c3]
    obtain ⟨N, rfl⟩ : ∃ N : Nat, af = (N : Int) := ⟨af.toNat, by omega⟩
    rw [Int.toNat_natCast]
    have u1 : N < f := by omega
    refine lay_start ?_
    go_enter Tryz.func75, Tryz.ntmps75
    go_wp2_with (go_at_call 140; refine (HV.out _).mono ?_; rintro e w' ⟨rfl, dv, rfl⟩; rw [lay_bw])
    refine region_bw (by kernel_rfl) (by kernel_rfl) ?_
    repeat (go_big_quiet_step ((first | (go_at_call 147; first | ((with_reducible refine bq (HW.out _) ?_); exact (fun d => ⟨d, rfl⟩)) | ((with_reducible refine bq (HW.out _) ?_); exact (fun d => lay_join _ _ _ d))))))
    refine wpQuiet_nil ?_
    rintro w' ⟨d, rfl⟩
    rw [lay_bw]
    go_wp2_with fail
    refine (HF.out _).mono ?_
    rintro e w' ⟨v1, d1, rfl, rfl, h1⟩
    rw [lay_bw] at h1 ⊢
    obtain ⟨g1, vc, hve, -, -, hfc, hfd⟩ := h1.form1 (by rw [HFl.out, HF8.out]; omega)
    rw [HFl.out] at hve hfc
    subst hve
    have H1 := Lib.hid h1
    clear h1
    go_wp2_with fail
    have HSw := Lib.hid (owG_swap (W2 := lay w [.inr d, .inr dv, .inl (.cells #[.slice none 0 0, .int .i64 0, .int .i64 0] 70), .inl (.cells #[.slice a m c, .int .i64 sy, .int .i64 (0)] 70)]) H1.out (Nat.le_refl _) (size_shp rfl))
    have hA : BsA (lay w [.inl (.cells #[.slice a m c, .slice (some ⟨g1, 0, none⟩) (N) vc] 68), .inr d1, .inr d, .inr dv, .inl (.cells #[.slice none 0 0, .int .i64 0, .int .i64 0] 70), .inl (.cells #[.slice a m c, .int .i64 sy, .int .i64 (0)] 70)]) (posn w [d1.n, d.n, dv.n, 1, 1]) [l, F.take N] := by
     refine ⟨by simp [go_sem]; unfold posn; simp, fun j x hx => ?_⟩
     rcases j with _ | _ | j
     ·simp only [List.getElem?_cons_zero, Option.some.injEq] at hx
      subst hx
      exact ⟨_, (by simp [go_sem]; first | done | rfl), by have := HVl.out.lay [.inl (.cells #[.slice a m c, .slice (some ⟨g1, 0, none⟩) (N) vc] 68), .inr d1, .inr d, .inr dv, .inl (.cells #[.slice none 0 0, .int .i64 0, .int .i64 0] 70), .inl (.cells #[.slice a m c, .int .i64 sy, .int .i64 (0)] 70)]; rwa [HM.out] at this, by have := HNn.out; rwa [HM.out] at this⟩
     ·simp only [List.getElem?_cons_succ, List.getElem?_cons_zero, Option.some.injEq] at hx
      subst hx
      exact ⟨_, (by simp [go_sem]; first | done | rfl), (slB_cut (f := 0) (HSw.out.sl bOk) (by rw [HFl.out]; omega) (by omega)).ext (lay_belowG (A := [_]) (B := [.inr d1, .inr d, .inr dv, .inl (.cells #[.slice none 0 0, .int .i64 0, .int .i64 0] 70), .inl (.cells #[.slice a m c, .int .i64 sy, .int .i64 (0)] 70)])), nilc_some⟩
     ·simp at hx
    have hC := sl_Concat (posn w [d1.n, d.n, dv.n, 1, 1]) 2 [l, F.take N] _ hA (by simp only [List.flatten_cons, List.flatten_nil, List.append_nil, List.length_append, List.length_take]; rw [HM.out, HFl.out]; omega) (by simp)
    rw [show [l, F.take N].flatten = l ++ F.take N from by simp] at hC
    refine hC.mono ?_
    rintro e w' ⟨v2, d2, rfl, rfl, h2⟩
    rw [lay_bw] at h2 ⊢
    obtain ⟨vb, vd, hve⟩ := h2.form
    obtain ⟨n2, hn2⟩ : ∃ n2, (l ++ F.take N).length = n2 := ⟨_, rfl⟩
    rw [hn2] at hve
    subst hve
    have H2 := Lib.hid h2
    clear h2 hA hC hn2
    go_wp2_with fail
    obtain ⟨dz, hz⟩ := lay_ex w [.inr d2, .inl (.cells #[.slice a m c, .slice (some ⟨g1, 0, none⟩) (N) vc] 68), .inr d1, .inr d, .inr dv, .inl (.cells #[.slice vb n2 vd, .int .i64 sy, .int .i64 (0)] 70), .inl (.cells #[.slice vb n2 vd, .int .i64 sy, .int .i64 (0)] 70)]
    exact bodyPost_ret (v := .tuple #[.agg #[.slice vb n2 vd, .int .i64 sy, .int .i64 (0)], .int .i64 19]) (by simp [results, Tryz.results75, go_sem]) rfl ⟨_, dz, rfl, hz, by rw [← hz]; exact (owG_swap (W2 := lay w [.inl (.cells #[.slice a m c, .slice (some ⟨g1, 0, none⟩) (N) vc] 68), .inr d1, .inr d, .inr dv, .inl (.cells #[.slice vb n2 vd, .int .i64 sy, .int .i64 (0)] 70), .inl (.cells #[.slice vb n2 vd, .int .i64 sy, .int .i64 (0)] 70)]) H2.out (Nat.le_refl _) (size_shp rfl)).le (by simp [go_sem])⟩
   ·rw [if_neg c3]
    refine lay_start ?_
    go_enter Tryz.func75, Tryz.ntmps75
    go_wp2_with (go_at_call 140; refine (HV.out _).mono ?_; rintro e w' ⟨rfl, dv, rfl⟩; rw [lay_bw])
    refine region_bw (by kernel_rfl) (by kernel_rfl) ?_
    repeat (go_big_quiet_step ((first | (go_at_call 147; first | ((with_reducible refine bq (HW.out _) ?_); exact (fun d => ⟨d, rfl⟩)) | ((with_reducible refine bq (HW.out _) ?_); exact (fun d => lay_join _ _ _ d))))))
    refine wpQuiet_nil ?_
    rintro w' ⟨d, rfl⟩
    rw [lay_bw]
    go_wp2_with fail
    refine (HF.out _).mono ?_
    rintro e w' ⟨v1, d1, rfl, rfl, h1⟩
    rw [lay_bw] at h1 ⊢
    obtain ⟨g1, vc, hve, -, -, hfc, hfd⟩ := h1.form1 (by rw [HFl.out, HF8.out]; omega)
    rw [HFl.out] at hve hfc
    subst hve
    have H1 := Lib.hid h1
    clear h1
    go_wp2_with fail
    have HSw := Lib.hid (owG_swap (W2 := lay w [.inr d, .inr dv, .inl (.cells #[.slice none 0 0, .int .i64 0, .int .i64 0] 70), .inl (.cells #[.slice a m c, .int .i64 sy, .int .i64 (af - f)] 70)]) H1.out (Nat.le_refl _) (size_shp rfl))
    have hA : BsA (lay w [.inl (.cells #[.slice a m c, .slice (some ⟨g1, 0, none⟩) (f) vc] 68), .inr d1, .inr d, .inr dv, .inl (.cells #[.slice none 0 0, .int .i64 0, .int .i64 0] 70), .inl (.cells #[.slice a m c, .int .i64 sy, .int .i64 (af - f)] 70)]) (posn w [d1.n, d.n, dv.n, 1, 1]) [l, F] := by
     refine ⟨by simp [go_sem]; unfold posn; simp, fun j x hx => ?_⟩
     rcases j with _ | _ | j
     ·simp only [List.getElem?_cons_zero, Option.some.injEq] at hx
      subst hx
      exact ⟨_, (by simp [go_sem]; first | done | rfl), by have := HVl.out.lay [.inl (.cells #[.slice a m c, .slice (some ⟨g1, 0, none⟩) (f) vc] 68), .inr d1, .inr d, .inr dv, .inl (.cells #[.slice none 0 0, .int .i64 0, .int .i64 0] 70), .inl (.cells #[.slice a m c, .int .i64 sy, .int .i64 (af - f)] 70)]; rwa [HM.out] at this, by have := HNn.out; rwa [HM.out] at this⟩
     ·simp only [List.getElem?_cons_succ, List.getElem?_cons_zero, Option.some.injEq] at hx
      subst hx
      exact ⟨_, (by simp [go_sem]; first | done | rfl), (HSw.out.sl bOk).ext (lay_belowG (A := [_]) (B := [.inr d1, .inr d, .inr dv, .inl (.cells #[.slice none 0 0, .int .i64 0, .int .i64 0] 70), .inl (.cells #[.slice a m c, .int .i64 sy, .int .i64 (af - f)] 70)])), nilc_some⟩
     ·simp at hx
    have hC := sl_Concat (posn w [d1.n, d.n, dv.n, 1, 1]) 2 [l, F] _ hA (by simp only [List.flatten_cons, List.flatten_nil, List.append_nil, List.length_append]; rw [HM.out, HFl.out]; omega) (by simp)
    rw [show [l, F].flatten = l ++ F from by simp] at hC
    refine hC.mono ?_
    rintro e w' ⟨v2, d2, rfl, rfl, h2⟩
    rw [lay_bw] at h2 ⊢
    obtain ⟨vb, vd, hve⟩ := h2.form
    obtain ⟨n2, hn2⟩ : ∃ n2, (l ++ F).length = n2 := ⟨_, rfl⟩
    rw [hn2] at hve
    subst hve
    have H2 := Lib.hid h2
    clear h2 hA hC hn2
    go_wp2_with fail
    obtain ⟨dz, hz⟩ := lay_ex w [.inr d2, .inl (.cells #[.slice a m c, .slice (some ⟨g1, 0, none⟩) (f) vc] 68), .inr d1, .inr d, .inr dv, .inl (.cells #[.slice vb n2 vd, .int .i64 sy, .int .i64 (af - f)] 70), .inl (.cells #[.slice vb n2 vd, .int .i64 sy, .int .i64 (af - f)] 70)]
    exact bodyPost_ret (v := .tuple #[.agg #[.slice vb n2 vd, .int .i64 sy, .int .i64 (af - f)], .int .i64 0]) (by simp [results, Tryz.results75, go_sem]) rfl ⟨_, dz, rfl, hz, by rw [← hz]; exact (owG_swap (W2 := lay w [.inl (.cells #[.slice a m c, .slice (some ⟨g1, 0, none⟩) (f) vc] 68), .inr d1, .inr d, .inr dv, .inl (.cells #[.slice vb n2 vd, .int .i64 sy, .int .i64 (af - f)] 70), .inl (.cells #[.slice vb n2 vd, .int .i64 sy, .int .i64 (af - f)] 70)]) H2.out (Nat.le_refl _) (size_shp rfl)).le (by simp [go_sem])⟩
end Go.Proofs.YtcbicpbbjbkiaaaGreatDoor
namespace Go.Proofs.YtcbicpbbjbkiaaaGreatDoor
open Go.RowKit

structure GrwK (wb w' : World) (v v' : Value) : Prop where
 size : wb.heap.size ≤ w'.heap.size
 kept : ∀ k, k < wb.heap.size → v.ownBlock ≠ some k → w'.heap[k]? = wb.heap[k]?
 at_ : ∀ k, v'.ownBlock = some k → v.ownBlock = some k ∨ wb.heap.size ≤ k
theorem GrwK.slG {α : Type} {R : RecT α} {wb w' : World} {v v' u : Value} {l : List α} (h : GrwK wb w' v v') (hu : SlG R wb u l) (hne : ∀ k, u.ownBlock = some k → v.ownBlock ≠ some k) : SlG R w' u l := by
 obtain ⟨a, cap, rfl, h2, h0, h3⟩ := hu
 refine ⟨a, cap, rfl, h2, h0, fun hl => ?_⟩
 obtain ⟨b, o, rfl, h4, h5⟩ := h3 hl
 exact ⟨b, o, rfl, Nat.lt_of_lt_of_le h4 h.size, fun i x hx j u hu => (World.cell?_of_block (a := ⟨b, o + (i * R.k + j), none⟩) (h.kept b h4 (hne b rfl))).trans (h5 i x hx j u hu)⟩
theorem push_recK {α : Type} {R : RecT α} (hR : RecOk R) {ops : Array Oper} {rest : List Oper} {o : Oper} {a : Act} {Q : Exit → Act → World → Prop} (hgd : o.guard = none) (s x : Operand)
  (ho : o.op = .call { callee := .builtin .append, args := #[s, x], argTypes := #[R.S, R.S] })
  (W0 : World) (B : Nat) (wb : World) (c : α) (cs : Array Value) (te : TypeId) (xb : Nat) (v : Value) (l : List α) (hw : Below W0.heap.size W0 wb) (hB : W0.heap.size ≤ B) (hBw : B ≤ wb.heap.size) (hown : OwG R wb B v l)
  (hcell : wb.heap[xb]? = some (.cells cs te (0, 0))) (hcs : cs.toList = R.enc c) (hs : a.eval s = v) (hx : a.eval x = .slice (some ⟨xb, 0, none⟩) 1 1)
  (hn : l.length ≤ 1000000000) (hc : R.wf c)
  (h : ∀ v' d, OwG R (Go.Proofs.YtcbicpbbjbkiaaaGreatDoor.bw W0 d) B v' (l ++ [c]) → GrwK wb (Go.Proofs.YtcbicpbbjbkiaaaGreatDoor.bw W0 d) v v' → wpList Tryz.prog ops Q rest (a.put o.dst v') (Go.Proofs.YtcbicpbbjbkiaaaGreatDoor.bw W0 d)) :
  wpList Tryz.prog ops Q (o :: rest) a wb := by
 obtain ⟨i, z, hi, hz0, hz1, hz2, hz3⟩ := hR.info
 have hM : maxLen = 9223372036854775807 := by decide
 have hb := hR.small
 have hb2 : (l.length + 1) * R.bytes ≤ 1000000001 * 1000 := Nat.mul_le_mul (by omega) hb
 refine wpList_append_lies wb hgd s x R.S ho B R.E i z R.k R.bytes hR.und hi hz0 hz1 hz2 hz3 hR.pos v l.length (l.flatMap R.enc) hs hown.1 ⟨xb, 0, none⟩ 1 1 (R.enc c) hx (by rw [hR.len, Nat.one_mul]) (by rw [← hcs]; exact World.news_of_block hcell) (hR.one c) (by decide) (by omega) (by omega) hBw wb.heap.size rfl ?_
 intro g cap w' hown' hg hat _
 obtain ⟨d, hd⟩ := bw_of (w := W0) (w' := w') (hw.grown hg hw.size (fun k hk => Nat.le_trans hB (hown.1.lt k hk).1))
 subst hd
 refine h _ d ⟨?_, fun y hy => ?_⟩ ⟨hg.size, fun k hk hne => hg.block k hk (fun e => hne e.symm), fun k hk => ?_⟩
 ·rw [List.flatMap_append, List.length_append]
  simpa using hown'
 ·rcases List.mem_append.1 hy with hy | hy
  ·exact hown.2 y hy
  ·rw [List.mem_singleton.1 hy]; exact hc
 ·have hkg : g = k := by simpa [Value.ownBlock] using hk
  subst hkg
  rcases hat with hat | hat
  ·exact .inl hat
  ·exact .inr (by omega)
def sR : RecT (Option Addr × Nat × Nat) := { E := 68, S := 152, k := 1, bytes := 24, enc := fun x => [.slice x.1 x.2.1 x.2.2], wf := fun _ => True }
theorem info_slS : (Tryz.prog.info? 68).map (fun i => (i.zero.map (fun z => z.cells.size), i.size, i.bytes)) = some (some 1, 1, 24) := by kernel_rfl
theorem sOk : RecOk sR where
 len _ := rfl
 one x u hu := by
  simp only [sR, List.mem_cons, List.not_mem_nil, or_false] at hu
  subst hu
  rfl
 pos := by decide
 und := Tryz.underlying152
 info := recInfo info_slS
 small := by decide
structure BsR (W : World) (B : Nat) (v : Value) (xs : List (Option Addr × Nat × Nat)) (ll : List (List Int)) : Prop where
 row : OwG sR W B v xs
 len : xs.length = ll.length
 at_ : ∀ (j : Nat) x l, xs[j]? = some x → ll[j]? = some l → SlG bR W (.slice x.1 x.2.1 x.2.2) l ∧ NilC (.slice x.1 x.2.1 x.2.2) ∧ ∀ k, (Value.slice x.1 x.2.1 x.2.2).ownBlock = some k → B ≤ k ∧ k < W.heap.size ∧ v.ownBlock ≠ some k
theorem BsR.nil (W : World) (B : Nat) : BsR W B (.slice none 0 0) [] [] := ⟨OwG.nil _ _ _, rfl, fun j x l h => by simp at h⟩
theorem BsR.ext {W W' : World} {B : Nat} {v : Value} {xs : List (Option Addr × Nat × Nat)} {ll : List (List Int)} (h : BsR W B v xs ll) (hb : Below W.heap.size W W') : BsR W' B v xs ll :=
 ⟨h.row.ext hb, h.len, fun j x l hx hl => by
  obtain ⟨h1, h2, h3⟩ := h.at_ j x l hx hl
  exact ⟨h1.ext hb, h2, fun k hk => ⟨(h3 k hk).1, Nat.lt_of_lt_of_le (h3 k hk).2.1 hb.size, (h3 k hk).2.2⟩⟩⟩
theorem BsR.push {W w' : World} {B : Nat} {v v' : Value} {xs : List (Option Addr × Nat × Nat)} {ll : List (List Int)} {wb : World} {x : Option Addr × Nat × Nat} {l : List Int}
  (h : BsR W B v xs ll) (hW : Below W.heap.size W wb) (hx : OwG bR wb W.heap.size (.slice x.1 x.2.1 x.2.2) l) (hB : B ≤ W.heap.size) (hg : GrwK wb w' v v') (hown : OwG sR w' B v' (xs ++ [x])) : BsR w' B v' (xs ++ [x]) (ll ++ [l]) := by
 have hvb : ∀ k, v.ownBlock = some k → k < W.heap.size := fun k hk => (h.row.1.lt k hk).2
 refine ⟨hown, by rw [List.length_append, List.length_append, h.len]; rfl, fun j y m hy hm => ?_⟩
 have key : ∀ u l0, SlG bR wb u l0 → NilC u → (∀ k, u.ownBlock = some k → B ≤ k ∧ v.ownBlock ≠ some k ∧ k < wb.heap.size) → SlG bR w' u l0 ∧ NilC u ∧ ∀ k, u.ownBlock = some k → B ≤ k ∧ k < w'.heap.size ∧ v'.ownBlock ≠ some k := fun u l0 h1 h2 h3 =>
  ⟨hg.slG h1 (fun k hk => (h3 k hk).2.1), h2, fun k hk => ⟨(h3 k hk).1, Nat.lt_of_lt_of_le (h3 k hk).2.2 hg.size, fun e => by
   rcases hg.at_ k e with e | e
   ·exact (h3 k hk).2.1 e
   ·have := (h3 k hk).2.2; omega⟩⟩
 by_cases hj : j < xs.length
 ·rw [List.getElem?_append_left hj] at hy
  rw [List.getElem?_append_left (by rw [← h.len]; exact hj)] at hm
  obtain ⟨h1, h2, h3⟩ := h.at_ j y m hy hm
  exact key _ _ (h1.ext hW) h2 (fun k hk => ⟨(h3 k hk).1, (h3 k hk).2.2, Nat.lt_of_lt_of_le (h3 k hk).2.1 hW.size⟩)
 ·have e1 : j = xs.length := by
   have := (List.getElem?_eq_some_iff.1 hy).1
   rw [List.length_append] at this; simp at this; omega
  subst e1
  rw [List.getElem?_append_right (Nat.le_refl _), Nat.sub_self] at hy
  rw [h.len, List.getElem?_append_right (Nat.le_refl _), Nat.sub_self] at hm
  simp only [List.getElem?_cons_zero, Option.some.injEq] at hy hm
  subst hy hm
  refine key _ _ (hx.sl bOk) hx.nilc (fun k hk => ?_)
  obtain ⟨k1, k2⟩ := hx.1.lt k hk
  exact ⟨by omega, fun e => by have := hvb k e; omega, k2⟩
structure RcI (l : List Int) (ll : List (List Int)) (r : List Int) : Prop where
 le : r.length ≤ l.length
 eq : ll ++ recL r = recL l
 bd : ll.length + r.length ≤ l.length
theorem RcI.start (l : List Int) : RcI l [] l := ⟨Nat.le_refl _, rfl, by simp⟩
theorem recL_none {b : List Int} (h : recF b = none) : recL b = [] := recsF_none h
theorem recL_some {b r t : List Int} (h : recF b = some (r, t)) : recL b = r :: recL t := by
 obtain ⟨k1, -, -⟩ := recF_len h
 unfold recL
 obtain ⟨q, hq⟩ : ∃ q, b.length = q + 1 := ⟨b.length - 1, by omega⟩
 rw [hq, recsF_some h, recsF_fuel q t (by omega) t.length (Nat.le_refl _)]
theorem RcI.done {l r : List Int} {ll : List (List Int)} (h : RcI l ll r) (hr : recF r = none) : ll = recL l := by
 have := h.eq
 rwa [recL_none hr, List.append_nil] at this
theorem RcI.next {l r x t : List Int} {ll : List (List Int)} (h : RcI l ll r) (hr : recF r = some (x, t)) : RcI l (ll ++ [x]) t ∧ t.length < r.length := by
 obtain ⟨k1, -, -⟩ := recF_len hr
 have h1 := h.le
 have h2 := h.bd
 refine ⟨⟨by omega, ?_, by simp; omega⟩, by omega⟩
 rw [List.append_assoc, ← h.eq, recL_some hr]
 rfl
def RecsP (w : World) (ll : List (List Int)) (e : Ending) (w' : World) : Prop := ∃ v d xs, e = .returned (.tuple #[v, .int .i64 0]) ∧ w' = bw w d ∧ BsR (bw w d) w.heap.size v xs ll
set_option maxHeartbeats 2000000 in
set_option maxRecDepth 100000 in
theorem jn_Records_ok (v : Value) (l : List Int) (sy af : Int) (w : World) (hv : SlG bR w v l) (ho : Old w v) (hd : dskB l sy af = true) :
  Calls Tryz.prog 72 #[.agg #[v, .int .i64 sy, .int .i64 af]] w (RecsP w (recL l)) := by
 have hl : l.length ≤ 1048576 := by unfold dskB at hd; simp only [Bool.and_eq_true, decide_eq_true_eq] at hd; exact hd.1.1.1
 have HV := Lib.hid (fun L => jn_Valid v l sy af (lay w L) (hv.lay L) (ho.lay L))
 rw [hd] at HV
 have HS := Lib.hid (RcI.start l)
 have HVl := Lib.hid hv
 have HOl := Lib.hid ho
 obtain ⟨a, c, rfl⟩ := hv.form
 have HLl := Lib.hid hl
 obtain ⟨m, hm⟩ : ∃ m, l.length = m := ⟨_, rfl⟩
 have HM := Lib.hid hm
 rw [hm] at HV ⊢
 clear hv ho hd hm hl
 refine lay_start ?_
 go_enter Tryz.func72, Tryz.ntmps72
 go_wp2_with (go_at_call 140; refine (HV.out _).mono ?_; rintro e w' ⟨rfl, dv, rfl⟩; rw [lay_bw])
 go_loopw [4, 5] (fun v4 v5 wr => ∃ (ll : List (List Int)) (r : List Int) (xs : List (Option Addr × Nat × Nat)) (dd : Ext) (x4 x5 : Value), x4 = v4 ∧ x5 = v5 ∧ wr = lay w [.inr dd] ∧ RcI l ll r ∧ BsR wr w.heap.size x4 xs ll ∧ SlG bR w x5 r ∧ Old w x5) (fun _ v5 _ => lenV v5)
 case atStart =>
  obtain ⟨dd, hd⟩ := lay_all w [.inr dv, .inl (.cells #[.slice a m c, .int .i64 sy, .int .i64 af] 70)]
  exact ⟨[], l, [], dd, _, _, rfl, rfl, hd, HS.out, BsR.nil _ _, by have := HVl.out; rwa [HM.out] at this, by have := HOl.out; rwa [HM.out] at this⟩
 case round =>
  obtain ⟨ll, r, xs, dd, x4, x5, rfl, rfl, rfl, hI, hB, hS, hO⟩ := hrel
  have HI := Lib.hid hI
  have HB := Lib.hid hB
  have HO := Lib.hid hO
  have hr := jn_record x5 r _ (hS.lay [.inr dd]) (by have := hI.le; have := HLl.out; omega)
  obtain ⟨a5, c5, rfl⟩ := hS.form
  obtain ⟨a4, c4, rfl⟩ := hB.row.form
  have HR := Lib.hid hr
  clear hr hI hB hS hO
  go_wp2_with fail
  refine HR.out.mono ?_
  rintro e w' ⟨hP, d5, rfl⟩
  rw [lay_bw]
  rcases hP with ⟨hn, rfl⟩ | ⟨x, t, vr, vt, hn, hvr, hvt, -, hvb, -, -, rfl⟩
  ·have HDn := Lib.hid (HI.out.done hn)
   clear hn
   go_wp2_with fail
   exact bodyPost_ret (v := .tuple #[.slice a4 xs.length c4, .int .i64 0]) (by simp [results, Tryz.results72, go_sem]) rfl ⟨_, _, xs, rfl, (lay_ex w _).choose_spec, by rw [← (lay_ex w _).choose_spec, ← HDn.out]; exact HB.out.ext (lay_belowG (A := [.inr d5]))⟩
  ·obtain ⟨hI2, hlt⟩ := HI.out.next hn
   have HI2 := Lib.hid hI2
   have HLt := Lib.hid hlt
   have HOt : Hid (Old w vt) := Lib.hid (fun k hk => HO.out k (hvb k hk))
   have HVt := Lib.hid (slG_down hvt HOt.out)
   have hxl : x.length ≤ 1000000000 := by have := (recF_len hn).2.1; omega
   have HC := Lib.hid (cln_Byte vr x _ (hvr.lay [.inr d5]) hxl)
   have HXs : Hid (xs.length ≤ 1000000000) := Lib.hid (by have := HB.out.len; have := HI.out.bd; have := HLl.out; omega)
   obtain ⟨ar, cr, rfl⟩ := hvr.form
   obtain ⟨at_, ct, rfl⟩ := hvt.form
   clear hn hI2 hlt hvr hvt hvb hxl
   go_wp2_with fail
   refine HC.out.mono ?_
   rintro e w' ⟨v6, d6, rfl, rfl, h6⟩
   obtain ⟨a6, c6, hv6⟩ := h6.form
   have H6 := Lib.hid h6
   subst hv6
   clear h6
   rw [show Go.Proofs.YtcbicpbbjbkiaaaGreatDoor.bw (lay (lay w [.inr dd]) [.inr d5]) d6 = lay w [.inr d6, .inr d5, .inr dd] from rfl] at *
   go_wp2_with (at_builtin; refine push_recK sOk rfl _ _ rfl w w.heap.size _ (a6, x.length, c6) #[.slice a6 x.length c6] 68 _ _ xs (lay_extends w _) (Nat.le_refl _) (lay_extends w _).size (HB.out.ext (lay_belowG (A := [.inl _, .inr d6, .inr d5]))).row (lay_get w _ 0 _ rfl) rfl rfl rfl HXs.out trivial ?_; intro v' d' hv' hg; rw [show Go.Proofs.YtcbicpbbjbkiaaaGreatDoor.bw w d' = lay w [.inr d'] from rfl] at hv' hg ⊢)
   go_roundw
   case rel => exact ⟨_, t, _, d', _, _, rfl, rfl, rfl, HI2.out, (HB.out.ext (lay_belowG (A := [.inr d5]))).push (x := (a6, x.length, c6)) (wb := lay w [.inl (.cells #[.slice a6 x.length c6] 68), .inr d6, .inr d5, .inr dd]) (lay_belowG (A := [.inl _, .inr d6])) (H6.out.ext (lay_belowG (A := [.inl _]))) (lay_extends w _).size hg hv', HVt.out, HOt.out⟩
   case measure => exact HLt.out
section
variable {P : Program} {md : Region.Mode} {κ : Type} {Cl : κ → World} {l : List Oper} {ops : Array Oper}

end
end Go.Proofs.YtcbicpbbjbkiaaaGreatDoor
namespace Go.Proofs.YtcbicpbbjbkiaaaGreatDoor
open Go.RowKit

section
variable {P : Program} {md : Region.Mode} {κ : Type} {Cl : κ → World} {l : List Oper} {ops : Array Oper} {st : Nat}

def inS (Cl : κ → World) (st : Nat) (listed : Array Bool) (w : World) : Prop := listed.getD st false = true ∨ ∃ k, w = Cl k
theorem inS_set {listed : Array Bool} {w : World} (i : Nat) (h : inS Cl st listed w) : inS Cl st (listed.setIfInBounds i true) w := by
 rcases h with h | h
 ·left
  by_cases e : i = st
  ·subst e
   have hlt : i < listed.size := by
    rcases Nat.lt_or_ge i listed.size with h' | h'
    ·exact h'
    ·simp [Array.getElem?_eq_none h'] at h
   simp [hlt]
  ·simp only [Array.getD_eq_getD_getElem?, Array.getElem?_setIfInBounds_ne e] at h ⊢; exact h
 ·exact .inr h
theorem inS_other {listed : Array Bool} {w : World} {i : Nat} (j : Nat) (e : i ≠ st) (h : inS Cl st ((listed.setIfInBounds i true).setIfInBounds j true) w) : inS Cl st (listed.setIfInBounds j true) w := by
 rcases h with h | h
 ·left
  by_cases hji : j = i
  ·subst hji
   simp only [Array.getD_eq_getD_getElem?, Array.getElem?_setIfInBounds_ne e] at h ⊢; exact h
  ·rw [Array.setIfInBounds_comm _ _ (fun h => hji h.symm)] at h
   simp only [Array.getD_eq_getD_getElem?] at h ⊢
   rw [Array.getElem?_setIfInBounds_ne e] at h; exact h
 ·exact .inr h
theorem inS_bw (hCl : ∀ k d, ∃ k', bw (Cl k) d = Cl k') {listed : Array Bool} {w : World} (d : Ext) (h : inS Cl st listed w) : inS Cl st listed (bw w d) := by
 rcases h with h | ⟨k, rfl⟩
 ·exact .inl h
 ·exact .inr (hCl k d)

def wpD (P : Program) (md : Region.Mode) (ops : Array Oper) (Cl : κ → World) (st : Nat) (Q : Act → World → Prop) : Nat → Array Bool → Act → World → Prop
 | 0, listed, a, w => Region.ready md ops listed = [] ∧ ∀ d, Q a (bw w d)
 | f + 1, listed, a, w => Region.ready md ops listed ≠ [] ∧ ∀ i ∈ Region.ready md ops listed, ∀ d, oneOp P ops i (fun a' w' => inS Cl st (listed.setIfInBounds i true) w' ∧ wpD P md ops Cl st Q f (listed.setIfInBounds i true) a' w') a (bw w d)
theorem wpD_ext {Q : Act → World → Prop} : ∀ {f : Nat} {listed : Array Bool} {a : Act} {w : World} (d : Ext), wpD P md ops Cl st Q f listed a w → wpD P md ops Cl st Q f listed a (bw w d)
 | 0, _, _, w, d, h => ⟨h.1, fun e => by rw [bw_bw]; exact h.2 _⟩
 | _ + 1, _, _, w, d, h => ⟨h.1, fun i hi e => by rw [bw_bw]; exact h.2 i hi _⟩
theorem wpD_sound {Q' : Exit → Act → World → Prop} : ∀ (f : Nat) (listed : Array Bool) (a : Act) (w : World), wpD P md ops Cl st (fun a w => Q' .normal a w) f listed a w → wpAny P md ops Q' f listed a w
 | 0, listed, a, w, h => ⟨h.1, by have := h.2 (noExt w); rwa [bw_noExt] at this⟩
 | f + 1, listed, a, w, h => by
  refine ⟨fun h0 => absurd h0 h.1, fun i hi => ?_⟩
  have h1 := h.2 i hi (noExt w)
  rw [bw_noExt] at h1
  unfold oneOp at h1
  unfold wpOp
  split
  ·rename_i ho; simp only [ho] at h1; exact wpD_sound f _ _ _ h1.2
  ·rename_i o ho
   simp only [ho] at h1
   split
   ·rename_i hw; rw [if_pos hw] at h1
    exact Or.inl (wp_of_sOp (sOp_mono (fun a w hk => wpD_sound f _ a w hk.2) h1))
   ·rename_i hw; rw [if_neg hw] at h1; exact wpD_sound f _ _ _ h1.2

theorem wpD_first {i : Nat} {oi : Oper} {v : Value} {Q : Act → World → Prop} (hCl : ∀ k d, ∃ k', bw (Cl k) d = Cl k') (hi : ops[i]? = some oi) (hsel : ∀ (j : Nat) (o : Oper) cs b, ops[j]? = some o → o.op ≠ .select cs b) (hne : i ≠ st) :
  ∀ (f : Nat) (listed : Array Bool) (a : Act) (w : World), inS Cl st listed w →
   (∀ j oj, ops[j]? = some oj → j ≠ i → listed.getD j true = false → (∀ e ∈ oj.after, Region.binds md e = true → e.on ≠ i) → oi.apart ops oj = true) →
   i ∈ Region.ready md ops listed → (YieldsM P ops (fun W : World => W) oi v a ∨ (YieldsM P ops Cl oi v a ∧ listed.getD st false = false ∧ ∃ os, ops[st]? = some os ∧ ∃ e ∈ os.after, Region.binds md e = true ∧ e.on = i)) →
   wpD P md ops Cl st Q f (listed.setIfInBounds i true) (a.put oi.dst v) w → wpD P md ops Cl st Q (f + 1) listed a w := by
 have one : ∀ {listed : Array Bool} {a : Act} {w : World} {K : Act → World → Prop}, inS Cl st listed w →
   (YieldsM P ops (fun W : World => W) oi v a ∨ (YieldsM P ops Cl oi v a ∧ listed.getD st false = false ∧ ∃ os, ops[st]? = some os ∧ ∃ e ∈ os.after, Region.binds md e = true ∧ e.on = i)) →
   K (a.put oi.dst v) w → (∀ d, K (a.put oi.dst v) (bw w d)) → oneOp P ops i K a w := by
  intro listed a w K hw hy h0 h1
  rcases hy with hy | ⟨hy, hs, _⟩
  ·exact hy.oneOp hi ⟨w, rfl⟩ h0 h1
  ·exact hy.oneOp hi (hw.resolve_left (by rw [hs]; exact Bool.false_ne_true)) h0 h1
 intro f
 induction f with
 | zero =>
  intro listed a w hw _ hr hy H
  refine ⟨List.ne_nil_of_mem hr, fun j hj d => ?_⟩
  by_cases hji : j = i
  ·subst hji
   exact one (inS_bw hCl d hw) hy ⟨inS_set _ (inS_bw hCl d hw), wpD_ext d H⟩ (fun e => ⟨inS_set _ (inS_bw hCl e (inS_bw hCl d hw)), wpD_ext e (wpD_ext d H)⟩)
  ·have := ready_mono hj hji
   rw [H.1] at this; cases this
 | succ f ih =>
  intro listed a w hw hfree hr hy H
  have hun := (mem_ready.1 hr).1
  refine ⟨List.ne_nil_of_mem hr, fun j hj d => ?_⟩
  by_cases hji : j = i
  ·subst hji
   exact one (inS_bw hCl d hw) hy ⟨inS_set _ (inS_bw hCl d hw), wpD_ext d H⟩ (fun e => ⟨inS_set _ (inS_bw hCl e (inS_bw hCl d hw)), wpD_ext e (wpD_ext d H)⟩)
  ·have h1 := H.2 j (ready_mono hj hji) d
   obtain ⟨hjun, oj, hoj, hall⟩ := mem_ready.1 hj
   have hunF : listed.getD i false = false := by
    rcases Nat.lt_or_ge i listed.size with h' | h'
    ·simp [h'] at hun ⊢; exact hun
    ·simp [Array.getElem?_eq_none h'] at hun
   have hnot : ∀ e ∈ oj.after, Region.binds md e = true → e.on ≠ i := fun e he hb heq => by
    have h2 := hall e he hb
    rw [heq, hunF] at h2
    cases h2
   have hap := hfree j oj hoj hji hjun hnot
   have hfree' : ∀ k ok, ops[k]? = some ok → k ≠ i → (listed.setIfInBounds j true).getD k true = false →
     (∀ e ∈ ok.after, Region.binds md e = true → e.on ≠ i) → oi.apart ops ok = true := fun k ok hk hki hu hno => by
    refine hfree k ok hk hki ?_ hno
    by_cases hjk : j = k
    ·subst hjk; exact hjun
    ·rw [getD_set_ne true hjk] at hu; exact hu
   have fin : ∀ (a' : Act) (w' : World), (YieldsM P ops (fun W : World => W) oi v a' ∨ (YieldsM P ops Cl oi v a' ∧ (listed.setIfInBounds j true).getD st false = false ∧ ∃ os, ops[st]? = some os ∧ ∃ e ∈ os.after, Region.binds md e = true ∧ e.on = i)) →
     inS Cl st ((listed.setIfInBounds i true).setIfInBounds j true) w' → wpD P md ops Cl st Q f ((listed.setIfInBounds i true).setIfInBounds j true) (a'.put oi.dst v) w' →
     inS Cl st (listed.setIfInBounds j true) w' ∧ wpD P md ops Cl st Q (f + 1) (listed.setIfInBounds j true) a' w' := fun a' w' hy' hin hk => by
    have hin' := inS_other j hne hin
    refine ⟨hin', ih (listed.setIfInBounds j true) a' w' hin' hfree' (ready_mono hr (Ne.symm hji)) hy' ?_⟩
    rw [Array.setIfInBounds_comm _ _ hji]
    exact hk
   rcases hy with hy | ⟨hy, hs, hedge⟩
   ·have h2 := oneOp_put hoj hap (fun cs b => hsel i oi cs b hi) (fun cs b => hsel j oj cs b hoj) hy h1
    exact oneOp_mono (fun a' w' h3 => fin a' w' (.inl h3.1) h3.2.1 h3.2.2) h2
   ·have hjst : j ≠ st := by
     rintro rfl
     obtain ⟨os, hos, e, he, hb, heq⟩ := hedge
     rw [hoj] at hos
     cases hos
     exact hnot e he hb heq
    have hs' : (listed.setIfInBounds j true).getD st false = false := by
     simp only [Array.getD_eq_getD_getElem?, Array.getElem?_setIfInBounds_ne hjst] at hs ⊢; exact hs
    have h2 := oneOp_put hoj hap (fun cs b => hsel i oi cs b hi) (fun cs b => hsel j oj cs b hoj) hy h1
    exact oneOp_mono (fun a' w' h3 => fin a' w' (.inr ⟨h3.1, hs', hedge⟩) h3.2.1 h3.2.2) h2

def wpMS (P : Program) (l : List Oper) (ops : Array Oper) (Cl : κ → World) (Q : Act → World → Prop) : List (Nat × Nat) → Act → World → Prop
 | [], a, w => ∀ d, Q a (bw w d)
 | (i, 0) :: s, a, w => ∃ o, l[i]? = some o ∧ (if Region.wanted o (yielded ops a.tmps) then mOp P Cl o a (fun a' => wpMS P l ops Cl Q s a' w) else wpMS P l ops Cl Q s (a.put o.dst undef) w)
 | (i, 1) :: s, a, w => ∃ o, l[i]? = some o ∧ ∀ d, (if Region.wanted o (yielded ops a.tmps) then sOp P o a (fun a' w' => (∃ k, w' = Cl k) ∧ wpMS P l ops Cl Q s a' w') (bw w d) else (∃ k, bw w d = Cl k) ∧ wpMS P l ops Cl Q s (a.put o.dst undef) (bw w d))
 | (i, 2) :: s, a, w => ∃ o, l[i]? = some o ∧ (if Region.wanted o (yielded ops a.tmps) then mOp P (fun W : World => W) o a (fun a' => wpMS P l ops Cl Q s a' w) else wpMS P l ops Cl Q s (a.put o.dst undef) w)
 | (i, 3) :: s, a, w => ∃ o, l[i]? = some o ∧ ∀ d, (if Region.wanted o (yielded ops a.tmps) then sOp P o a (fun a' w' => wpMS P l ops Cl Q s a' w') (bw w d) else wpMS P l ops Cl Q s (a.put o.dst undef) (bw w d))
 | (_, _ + 4) :: _, _, _ => False
def edgeB (md : Region.Mode) (ops : Array Oper) (st i : Nat) : Bool := match ops[st]? with | none => false | some os => os.after.any fun e => Region.binds md e && decide (e.on = i)
theorem edge_of {i : Nat} (h : edgeB md ops st i = true) : ∃ os, ops[st]? = some os ∧ ∃ e ∈ os.after, Region.binds md e = true ∧ e.on = i := by
 unfold edgeB at h
 cases ho : ops[st]? with
 | none => rw [ho] at h; cases h
 | some os =>
  rw [ho] at h
  obtain ⟨e, he, h2⟩ := Array.any_eq_true'.1 h
  simp only [Bool.and_eq_true, decide_eq_true_eq] at h2
  exact ⟨os, rfl, e, he, h2.1, h2.2⟩
def lexMS (md : Region.Mode) (ops : Array Oper) (st : Nat) : List (Nat × Nat) → Array Bool → Bool
 | [], listed => (Region.ready md ops listed).isEmpty
 | (i, 0) :: s, listed => decide (i ≠ st) && (!listed.getD st false) && edgeB md ops st i && (Region.ready md ops listed).contains i && Region.free md ops listed i && lexMS md ops st s (listed.setIfInBounds i true)
 | (i, 1) :: s, listed => decide (Region.ready md ops listed = [i]) && lexMS md ops st s (listed.setIfInBounds i true)
 | (i, 2) :: s, listed => decide (i ≠ st) && (Region.ready md ops listed).contains i && Region.free md ops listed i && lexMS md ops st s (listed.setIfInBounds i true)
 | (i, 3) :: s, listed => (listed.setIfInBounds i true).getD st false && decide (Region.ready md ops listed = [i]) && lexMS md ops st s (listed.setIfInBounds i true)
 | (_, _ + 4) :: _, _ => false

theorem wpD_of_wpMS {Q : Act → World → Prop} (hCl : ∀ k d, ∃ k', bw (Cl k) d = Cl k') (hl : ∀ j : Nat, l[j]? = ops[j]?) (hsel : Region.noSelect ops = true) :
  ∀ (s : List (Nat × Nat)) (listed : Array Bool) (a : Act) (w : World), inS Cl st listed w → lexMS md ops st s listed = true → wpMS P l ops Cl Q s a w → wpD P md ops Cl st Q s.length listed a w
 | [], listed, a, w, hw, hB, h => by
  simp only [lexMS, List.isEmpty_iff] at hB
  exact ⟨hB, h⟩
 | (k, 0) :: s, listed, a, w, hw, hB, h => by
  simp only [lexMS, Bool.and_eq_true, decide_eq_true_eq, Bool.not_eq_true'] at hB
  obtain ⟨⟨⟨⟨⟨hks, hst⟩, hed⟩, hr⟩, hf⟩, hB'⟩ := hB
  obtain ⟨o, ho, h⟩ := h
  have h0 : ops[k]? = some o := (hl k).symm.trans ho
  have hr' : k ∈ Region.ready md ops listed := by simpa using hr
  have hy : ∃ v, YieldsM P ops Cl o v a ∧ wpMS P l ops Cl Q s (a.put o.dst v) w := by
   by_cases hw1 : Region.wanted o (yielded ops a.tmps) = true
   ·rw [if_pos hw1] at h
    obtain ⟨v, h1, h2⟩ := h
    exact ⟨v, .inl ⟨hw1, h1⟩, h2⟩
   ·rw [if_neg hw1] at h
    exact ⟨undef, .inr ⟨by simpa using hw1, rfl⟩, h⟩
  obtain ⟨v, hy, hK⟩ := hy
  exact wpD_first hCl h0 (Region.noSelect_spec hsel) hks s.length listed a w hw (Region.free_spec h0 hf) hr' (.inr ⟨hy, hst, edge_of hed⟩) (wpD_of_wpMS hCl hl hsel s _ _ w (inS_set _ hw) hB' hK)
 | (k, 2) :: s, listed, a, w, hw, hB, h => by
  simp only [lexMS, Bool.and_eq_true, decide_eq_true_eq] at hB
  obtain ⟨⟨⟨hks, hr⟩, hf⟩, hB'⟩ := hB
  obtain ⟨o, ho, h⟩ := h
  have h0 : ops[k]? = some o := (hl k).symm.trans ho
  have hr' : k ∈ Region.ready md ops listed := by simpa using hr
  have hy : ∃ v, YieldsM P ops (fun W : World => W) o v a ∧ wpMS P l ops Cl Q s (a.put o.dst v) w := by
   by_cases hw1 : Region.wanted o (yielded ops a.tmps) = true
   ·rw [if_pos hw1] at h
    obtain ⟨v, h1, h2⟩ := h
    exact ⟨v, .inl ⟨hw1, h1⟩, h2⟩
   ·rw [if_neg hw1] at h
    exact ⟨undef, .inr ⟨by simpa using hw1, rfl⟩, h⟩
  obtain ⟨v, hy, hK⟩ := hy
  exact wpD_first hCl h0 (Region.noSelect_spec hsel) hks s.length listed a w hw (Region.free_spec h0 hf) hr' (.inl hy) (wpD_of_wpMS hCl hl hsel s _ _ w (inS_set _ hw) hB' hK)
 | (k, 1) :: s, listed, a, w, hw, hB, h => by
  simp only [lexMS, Bool.and_eq_true, decide_eq_true_eq] at hB
  obtain ⟨hr, hB'⟩ := hB
  obtain ⟨o, ho, h⟩ := h
  have h0 : ops[k]? = some o := (hl k).symm.trans ho
  refine ⟨by rw [hr]; simp, fun i hi d => ?_⟩
  rw [hr] at hi
  obtain rfl : i = k := by simpa using hi
  have hd := h d
  rw [oneOp_some h0]
  split
  ·rename_i hw1; rw [if_pos hw1] at hd
   exact sOp_mono (fun a' w' hk => ⟨.inr hk.1, wpD_of_wpMS hCl hl hsel s _ _ w' (.inr hk.1) hB' hk.2⟩) hd
  ·rename_i hw1; rw [if_neg hw1] at hd
   exact ⟨.inr hd.1, wpD_of_wpMS hCl hl hsel s _ _ _ (.inr hd.1) hB' hd.2⟩
 | (k, 3) :: s, listed, a, w, hw, hB, h => by
  simp only [lexMS, Bool.and_eq_true, decide_eq_true_eq] at hB
  obtain ⟨⟨hst, hr⟩, hB'⟩ := hB
  obtain ⟨o, ho, h⟩ := h
  have h0 : ops[k]? = some o := (hl k).symm.trans ho
  refine ⟨by rw [hr]; simp, fun i hi d => ?_⟩
  rw [hr] at hi
  obtain rfl : i = k := by simpa using hi
  have hd := h d
  rw [oneOp_some h0]
  split
  ·rename_i hw1; rw [if_pos hw1] at hd
   exact sOp_mono (fun a' w' hk => ⟨.inl hst, wpD_of_wpMS hCl hl hsel s _ _ w' (.inl hst) hB' hk⟩) hd
  ·rename_i hw1; rw [if_neg hw1] at hd
   exact ⟨.inl hst, wpD_of_wpMS hCl hl hsel s _ _ _ (.inl hst) hB' hd⟩
 | (_, _ + 4) :: _, _, _, _, _, hB, _ => by simp [lexMS] at hB

theorem region_mixS {id : Nat} {Q : Exit → Act → World → Prop} {a : Act} {w : World} {l : List Oper} (st : Nat) (s : List (Nat × Nat)) (hm : P.follows .mixedOrders = true) (hsel : Region.noSelect l.toArray = true)
  (hB : lexMS .any l.toArray st s (Array.replicate l.toArray.size false) = true) (hn : s.length = l.toArray.size)
  (h : wpMS P l l.toArray (fun d => bw w d) (fun a w => Q .normal a w) s a w) : (Code.region id l.toArray true).wp P Q a w := by
 refine wp_region_any hm ?_
 have := wpD_of_wpMS (md := .any) (st := st) (fun k d => ⟨_, bw_bw w k d⟩) (fun j => by simp) hsel s _ a w (.inr ⟨noExt w, (bw_noExt w).symm⟩) hB h
 have := wpD_ext (⟨#[], w.drawn + 1⟩ : Ext) this
 rw [← bw_drewExt] at this
 have := wpD_sound (Q' := Q) _ _ _ _ this
 rwa [hn] at this
theorem wpMS_quiet {Q : Act → World → Prop} {a : Act} {w : World} {i : Nat} {o : Oper} {s : List (Nat × Nat)} (ho : l[i]? = some o)
  (h : ∀ K : Act → Prop, (∀ a, wpMS P l ops Cl Q s a w → K a) → if Region.wanted o (yielded ops a.tmps) then mOp P Cl o a K else K (a.put o.dst undef)) : wpMS P l ops Cl Q ((i, 0) :: s) a w :=
 ⟨o, ho, h _ (fun _ h => h)⟩
theorem wpMS_pure {Q : Act → World → Prop} {a : Act} {w : World} {i : Nat} {o : Oper} {s : List (Nat × Nat)} (ho : l[i]? = some o)
  (h : ∀ K : Act → Prop, (∀ a, wpMS P l ops Cl Q s a w → K a) → if Region.wanted o (yielded ops a.tmps) then mOp P (fun W : World => W) o a K else K (a.put o.dst undef)) : wpMS P l ops Cl Q ((i, 2) :: s) a w :=
 ⟨o, ho, h _ (fun _ h => h)⟩
theorem wpMS_special {Q : Act → World → Prop} {a : Act} {w : World} {i : Nat} {o : Oper} {s : List (Nat × Nat)} (ho : l[i]? = some o)
  (h : ∀ (K : Act → World → Prop), (∀ a' w', (∃ k, w' = Cl k) → wpMS P l ops Cl Q s a' w' → K a' w') → ∀ d, if Region.wanted o (yielded ops a.tmps) then sOp P o a K (bw w d) else K (a.put o.dst undef) (bw w d)) : wpMS P l ops Cl Q ((i, 1) :: s) a w :=
 ⟨o, ho, fun d => by
  have := h (fun a' w' => (∃ k, w' = Cl k) ∧ wpMS P l ops Cl Q s a' w') (fun _ _ h1 h2 => ⟨h1, h2⟩) d
  split
  ·rename_i hw; rw [if_pos hw] at this; exact this
  ·rename_i hw; rw [if_neg hw] at this; exact this⟩
theorem wpMS_store {Q : Act → World → Prop} {a : Act} {w : World} {i : Nat} {o : Oper} {s : List (Nat × Nat)} (ho : l[i]? = some o)
  (h : ∀ (K : Act → World → Prop), (∀ a' w', wpMS P l ops Cl Q s a' w' → K a' w') → ∀ d, if Region.wanted o (yielded ops a.tmps) then sOp P o a K (bw w d) else K (a.put o.dst undef) (bw w d)) : wpMS P l ops Cl Q ((i, 3) :: s) a w :=
 ⟨o, ho, fun d => by
  have := h (fun a' w' => wpMS P l ops Cl Q s a' w') (fun _ _ h2 => h2) d
  split
  ·rename_i hw; rw [if_pos hw] at this; exact this
  ·rename_i hw; rw [if_neg hw] at this; exact this⟩
theorem wpMS_nil {Q : Act → World → Prop} {a : Act} {w : World} (h : ∀ d, Q a (bw w d)) : wpMS P l ops Cl Q [] a w := h
end
end Go.Proofs.YtcbicpbbjbkiaaaGreatDoor
namespace Go.Proofs.YtcbicpbbjbkiaaaGreatDoor
open Go.RowKit

theorem push_litK {α : Type} {R : RecT α} (hR : RecOk R) {ops : Array Oper} {rest : List Oper} {o : Oper} {a : Act} {Q : Exit → Act → World → Prop} (hgd : o.guard = none) (s x : Operand)
  (ho : o.op = .call { callee := .builtin .append, args := #[s, x], argTypes := #[R.S, R.S] })
  (W0 : World) (B : Nat) (wb : World) (cl : List α) (cs : Array Value) (te : TypeId) (xb n c : Nat) (v : Value) (l : List α) (hw : Below W0.heap.size W0 wb) (hB : W0.heap.size ≤ B) (hBw : B ≤ wb.heap.size) (hown : OwG R wb B v l)
  (hcell : wb.heap[xb]? = some (.cells cs te (0, 0))) (hcs : cs.toList = cl.flatMap R.enc) (hs : a.eval s = v) (hx : a.eval x = .slice (some ⟨xb, 0, none⟩) n c) (hln : n = cl.length) (h0 : 0 < n)
  (hn : l.length + n ≤ 1000000000) (hc : ∀ y ∈ cl, R.wf y)
  (h : ∀ v' d, OwG R (Go.Proofs.YtcbicpbbjbkiaaaGreatDoor.bw W0 d) B v' (l ++ cl) → GrwK wb (Go.Proofs.YtcbicpbbjbkiaaaGreatDoor.bw W0 d) v v' → wpList Tryz.prog ops Q rest (a.put o.dst v') (Go.Proofs.YtcbicpbbjbkiaaaGreatDoor.bw W0 d)) :
  wpList Tryz.prog ops Q (o :: rest) a wb := by
 subst hln
 obtain ⟨i, z, hi, hz0, hz1, hz2, hz3⟩ := hR.info
 have hM : maxLen = 9223372036854775807 := by decide
 have hb := hR.small
 have hb2 : (l.length + cl.length) * R.bytes ≤ 1000000000 * 1000 := Nat.mul_le_mul (by omega) hb
 refine wpList_append_lies wb hgd s x R.S ho B R.E i z R.k R.bytes hR.und hi hz0 hz1 hz2 hz3 hR.pos v l.length (l.flatMap R.enc) hs hown.1 ⟨xb, 0, none⟩ cl.length c (cl.flatMap R.enc) hx (flat_len hR cl) (by rw [← hcs]; exact World.news_of_block hcell) (fun u hu => by obtain ⟨y, _, hy⟩ := List.mem_flatMap.1 hu; exact hR.one y u hy) h0 (by omega) (by omega) hBw wb.heap.size rfl ?_
 intro g cap w' hown' hg hat _
 obtain ⟨d, hd⟩ := bw_of (w := W0) (w' := w') (hw.grown hg hw.size (fun k hk => Nat.le_trans hB (hown.1.lt k hk).1))
 subst hd
 refine h _ d ⟨by rw [List.length_append, List.flatMap_append]; exact hown', fun y hy => ?_⟩ ⟨hg.size, fun k hk hne => hg.block k hk (fun e => hne e.symm), fun k hk => ?_⟩
 ·rcases List.mem_append.1 hy with hy | hy
  ·exact hown.2 y hy
  ·exact hc y hy
 ·have hkg : g = k := by simpa [Value.ownBlock] using hk
  subst hkg
  rcases hat with hat | hat
  ·exact .inl hat
  ·exact .inr (by omega)
structure GrwT (wb w' : World) (v : Value) : Prop where
 size : wb.heap.size ≤ w'.heap.size
 kept : ∀ k, k < wb.heap.size → v.ownBlock ≠ some k → w'.heap[k]? = wb.heap[k]?
theorem GrwK.tee {wb w' : World} {v v' : Value} (h : GrwK wb w' v v') : GrwT wb w' v := ⟨h.size, h.kept⟩
def NoB (W : World) (k : Nat) : Prop := ∀ cur f, W.heap[k]? ≠ some (.cells cur 5 f)
theorem row_noB {W : World} {B : Nat} {v : Value} {bs : List Int} (h : OwG bR W B v bs) {k : Nat} (hk : v.ownBlock = some k) : ¬ NoB W k := by
 rcases h.1.2 with ⟨rfl, -⟩ | ⟨g, cap, cur, rfl, -, h2, -⟩
 ·cases hk
 ·have : g = k := by simpa [Value.ownBlock] using hk
  subst this
  exact fun hn => hn _ _ h2
structure WrI (B b : Nat) (v : Value) (bs : List Int) (W : World) : Prop where
 ge : B ≤ b
 blk : W.heap[b]? = some (.cells #[v] 223 (0, 0))
 row : OwG bR W B v bs
theorem WrI.noB {B b : Nat} {v : Value} {bs : List Int} {W : World} (h : WrI B b v bs W) : NoB W b := fun cur f e => by
 rw [h.blk] at e
 simp at e
structure WrK (b : Nat) (W W' : World) : Prop where
 size : W.heap.size ≤ W'.heap.size
 kept : ∀ k, k < W.heap.size → k ≠ b → NoB W k → W'.heap[k]? = W.heap[k]?
theorem WrK.refl (b : Nat) (W : World) : WrK b W W := ⟨Nat.le_refl _, fun _ _ _ _ => rfl⟩
theorem WrK.trans {b : Nat} {W1 W2 W3 : World} (h : WrK b W1 W2) (g : WrK b W2 W3) : WrK b W1 W3 :=
 ⟨Nat.le_trans h.size g.size, fun k hk hb hv => by
  have e := h.kept k hk hb hv
  refine (g.kept k (Nat.lt_of_lt_of_le hk h.size) hb (fun cur f => ?_)).trans e
  rw [e]; exact hv cur f⟩
theorem WrI.lt {B b : Nat} {v : Value} {bs : List Int} {W : World} (h : WrI B b v bs W) : b < W.heap.size := (Array.getElem?_eq_some_iff.1 h.blk).1
theorem WrI.cell {B b : Nat} {v : Value} {bs : List Int} {W : World} (h : WrI B b v bs W) : W.cell? ⟨b, 0, none⟩ = some v := by
 unfold World.cell?; dsimp only; rw [h.blk]; rfl
theorem WrI.froz {B b : Nat} {v : Value} {bs : List Int} {W : World} (h : WrI B b v bs W) : W.frozen? ⟨b, 0, none⟩ = false := by
 unfold World.frozen?; dsimp only; rw [h.blk]; rfl
theorem WrI.step {B b : Nat} {v v' : Value} {bs bs' : List Int} {W wb w2 : World} (h : WrI B b v bs W) (hW : Below W.heap.size W wb) (hg : GrwT wb w2 v) (hown : OwG bR w2 B v' bs') : WrI B b v' bs' (w2.setCell ⟨b, 0, none⟩ v') ∧ WrK b W (w2.setCell ⟨b, 0, none⟩ v') ∧ w2.cell? ⟨b, 0, none⟩ = some v ∧ w2.frozen? ⟨b, 0, none⟩ = false ∧ b < w2.heap.size := by
 have hlt := h.lt
 have hlb : b < wb.heap.size := Nat.lt_of_lt_of_le hlt hW.size
 have hk2 : w2.heap[b]? = some (.cells #[v] 223 (0, 0)) := (hg.kept b hlb (fun e => row_noB h.row e h.noB)).trans ((hW.block b hlt).trans h.blk)
 have hne : v'.ownBlock ≠ some b := fun e => row_noB hown e (fun cur f e2 => by rw [hk2] at e2; simp at e2)
 have hoth : ∀ k, k ≠ b → (w2.setCell ⟨b, 0, none⟩ v').heap[k]? = w2.heap[k]? := fun k hk => heap_setCell_other _ ⟨b, 0, none⟩ k v' hk
 refine ⟨⟨h.ge, ?_, ⟨⟨hown.1.1, hown.1.2.imp id ?_⟩, hown.2⟩⟩, ⟨?_, fun k hk hb hv => ?_⟩, ?_, ?_, Nat.lt_of_lt_of_le hlb hg.size⟩
 ·unfold World.setCell
  simp [Array.getElem?_modify, hk2]
 ·rintro ⟨g, cap, cur, e, h1, h2, h3⟩
  have hgb : g ≠ b := fun e2 => hne (by rw [e, e2]; rfl)
  exact ⟨g, cap, cur, e, h1, (hoth g hgb).trans h2, h3⟩
 ·rw [World.size_setCell]; exact Nat.le_trans hW.size hg.size
 ·rw [hoth k hb, hg.kept k (Nat.lt_of_lt_of_le hk hW.size) (fun e => row_noB h.row e hv)]
  exact hW.block k hk
 ·unfold World.cell?; dsimp only; rw [hk2]; rfl
 ·unfold World.frozen?; dsimp only; rw [hk2]; rfl
end Go.Proofs.YtcbicpbbjbkiaaaGreatDoor
namespace Go.Proofs.YtcbicpbbjbkiaaaGreatDoor
set_option maxHeartbeats 2000000
set_option maxRecDepth 100000
open Go.RowKit

def WrP (W0 : World) (B b : Nat) (bs : List Int) (W : World) (e : Ending) (w' : World) : Prop := e = .returned (.tuple #[]) ∧ ∃ v' d, w' = bw W0 d ∧ WrI B b v' bs w' ∧ WrK b W w'
theorem bw_set {W0 : World} {d : Ext} {b i : Nat} {v : Value} (h : W0.heap.size ≤ b) : ∃ d', (bw W0 d).setCell ⟨b, i, none⟩ v = bw W0 d' := bw_storeG h
theorem below_lay {W0 W : World} (h : Below W0.heap.size W0 W) : ∀ L : List (Obj ⊕ Ext), Below W0.heap.size W0 (lay W L)
 | [] => h
 | .inl o :: L => (below_lay h L).alloc (below_lay h L).size o
 | .inr _ :: L => below_bw (below_lay h L) (below_lay h L).size
theorem lg_size (W0 : World) (B b : Nat) (v : Value) (bs : List Int) (n : Int) (W : World) (hW : Below W0.heap.size W0 W) (hB0 : W0.heap.size ≤ B) (hBW : B ≤ W.heap.size) (h : WrI B b v bs W) (hl : bs.length ≤ 100000000) (hn : 0 ≤ n ∧ n < 65536) :
  Calls Tryz.prog 145 #[.pointer (some ⟨b, 0, none⟩), .int .i64 n] W (WrP W0 B b (bs ++ [n / 256, n % 256]) W) := by
 have HI := Lib.hid h
 have hlt := h.lt
 have hc := h.cell
 have hf := h.froz
 obtain ⟨a, c, rfl⟩ := h.row.form
 have HL := Lib.hid hl
 have HW := Lib.hid hW
 have HB0 := Lib.hid hB0
 have HBW := Lib.hid hBW
 have e1 : n / 256 % 256 = n / 256 := Int.emod_eq_of_lt (by omega) (by omega)
 have HN := Lib.hid hn
 obtain ⟨m, hm⟩ : ∃ m, bs.length = m := ⟨_, rfl⟩
 clear h hl hW hB0 hBW hm
 refine lay_start ?_
 go_enter Tryz.func145, Tryz.ntmps145
 go_wp2_with (at_builtin; refine push_litK bOk rfl _ _ rfl W0 B _ [n / 256, n % 256] _ 5 _ _ _ _ bs (below_lay HW.out _) HB0.out (Nat.le_trans HBW.out (lay_extends W _).size) (HI.out.row.ext (lay_extends W _)) (lay_get W _ 0 _ rfl) rfl rfl rfl rfl (by decide) (by have := HL.out; omega) ?_ ?_)
 case refine_1 =>
  intro y hy
  have := HN.out
  simp only [List.mem_cons, List.not_mem_nil, or_false] at hy
  show 0 ≤ y ∧ y < 256
  rcases hy with rfl | rfl <;> omega
 intro v' d' hv' hg
 obtain ⟨q1, q2, q3, q4, q5⟩ := HI.out.step (lay_extends W _) hg.tee hv'
 obtain ⟨w2, hw2⟩ : ∃ w2, w2 = Go.Proofs.YtcbicpbbjbkiaaaGreatDoor.bw W0 d' := ⟨_, rfl⟩
 have hs := bw_set (W0 := W0) (d := d') (b := b) (i := 0) (v := v') (Nat.le_trans HB0.out HI.out.ge)
 rw [← hw2] at q1 q2 q3 q4 q5 hs ⊢
 obtain ⟨va, vc, hve⟩ := hv'.form
 obtain ⟨n2, hn2⟩ : ∃ n2, (bs ++ [n / 256, n % 256]).length = n2 := ⟨_, rfl⟩
 rw [hn2] at hve
 have H1 := Lib.hid (And.intro q1 (And.intro q2 hs))
 subst hve
 clear hv' hg q1 q2 hs hw2 hn2
 go_wp2_with fail
 obtain ⟨ds, hds⟩ := H1.out.2.2
 exact bodyPost_end (v := .tuple #[]) (results_none rfl _ _ _) rfl ⟨rfl, _, ds, hds, H1.out.1, H1.out.2.1⟩
def strN (s : ByteArray) : List Int := s.data.toList.map fun b => (b.toNat : Int)
theorem strN_len (s : ByteArray) : (strN s).length = s.size := by unfold strN; rw [List.length_map, Array.length_toList]; rfl
theorem strN_by (s : ByteArray) : isBy (strN s) := by
 intro x hx
 unfold strN at hx
 obtain ⟨b, -, rfl⟩ := List.mem_map.1 hx
 have := b.toNat_lt
 omega
theorem strN_cells (s : ByteArray) : Lib.strCells s = (strN s).flatMap bR.enc := by
 unfold Lib.strCells strN
 rw [List.flatMap_map]
 show _ = List.flatMap (fun b => [Value.int .u8 (b.toNat : Int)]) s.data.toList
 induction s.data.toList with
 | nil => rfl
 | cons x l ih => rw [List.map_cons, List.flatMap_cons, ih]; rfl
theorem lg_str (W0 : World) (B b : Nat) (v : Value) (bs : List Int) (s : ByteArray) (W : World) (hW : Below W0.heap.size W0 W) (hB0 : W0.heap.size ≤ B) (hBW : B ≤ W.heap.size) (h : WrI B b v bs W) (hl : bs.length ≤ 10000000) (hn : s.size < 65536) :
  Calls Tryz.prog 143 #[.pointer (some ⟨b, 0, none⟩), .string s] W (WrP W0 B b (bs ++ ([(s.size : Int) / 256, (s.size : Int) % 256] ++ strN s)) W) := by
 have hS := Lib.hid (lg_size W0 B b v bs (s.size : Int) W hW hB0 hBW h (by omega) (by omega))
 obtain ⟨i0, hi, hz0, hz1, hz2⟩ := info_parts info_u8z
 have hM : maxLen = 9223372036854775807 := by decide
 have HB0 := Lib.hid hB0
 have HBW := Lib.hid hBW
 have HL := Lib.hid hl
 have HS := Lib.hid hn
 have HI := Lib.hid h
 obtain ⟨BS, hBS⟩ : ∃ BS, bs ++ ([(s.size : Int) / 256, (s.size : Int) % 256] ++ strN s) = BS := ⟨_, rfl⟩
 rw [hBS]
 have HBS := Lib.hid hBS
 have hps : Tryz.prog.underlying 9 = some .string := Tryz.underlying9
 clear h hl hW hB0 hBW hBS
 refine lay_start ?_
 go_enter Tryz.func143, Tryz.ntmps143
 go_wp2_with fail
 refine hS.out.mono ?_
 rintro e w1 ⟨rfl, v1, d1, hw1, h1, k1⟩
 have H1 := Lib.hid h1
 have HK1 := Lib.hid k1
 have hlt := h1.lt
 have hc := h1.cell
 have hf := h1.froz
 have HW1 : Hid (Below W0.heap.size W0 w1) := Lib.hid (by rw [hw1]; exact bw_below W0 d1)
 have hB1 : B ≤ w1.heap.size := Nat.le_trans HBW.out k1.size
 obtain ⟨a, c, rfl⟩ := h1.row.form
 obtain ⟨n1, hn1⟩ : ∃ n1, (bs ++ [(s.size : Int) / 256, (s.size : Int) % 256]).length = n1 := ⟨_, rfl⟩
 have HN1 : Hid (n1 = bs.length + 2) := Lib.hid (by rw [← hn1]; simp)
 have hrow := h1.row.1
 rw [hn1] at hc hrow
 have HR := Lib.hid hrow
 clear h1 k1 hw1 hrow
 go_wp2_with (at_builtin; refine Lib.wpList_append_own_string _ rfl _ _ 68 9 rfl B 5 i0 Tryz.underlying68 hps hi hz0 hz1 hz2 _ _ _ rfl HR.out s rfl (by rw [hM, HN1.out]; have := HL.out; have := HS.out; omega) (by rw [HN1.out]; have := HL.out; have := HS.out; omega) hB1 ?_)
 intro v' w2 ho hg _
 have hv' : OwG bR w2 B v' BS := by
  have e1 : BS.flatMap bR.enc = List.flatMap bR.enc (bs ++ [(s.size : Int) / 256, (s.size : Int) % 256]) ++ Lib.strCells s := by
   rw [← HBS.out, strN_cells]; simp
  have e2 : BS.length = n1 + s.size := by rw [← HBS.out, HN1.out]; simp [strN_len]; omega
  refine ⟨by rw [e2, e1]; show w2.ownsRow B 5 1 v' _ _; simpa using ho, fun y hy => ?_⟩
  rw [← HBS.out] at hy
  have := HS.out
  rcases List.mem_append.1 hy with hy | hy
  ·exact HI.out.row.2 y hy
  ·rcases List.mem_append.1 hy with hy | hy
   ·simp only [List.mem_cons, List.not_mem_nil, or_false] at hy
    show 0 ≤ y ∧ y < 256
    rcases hy with rfl | rfl <;> omega
   ·exact strN_by s y hy
 obtain ⟨d2, hd2⟩ := bw_of (HW1.out.grown hg HW1.out.size (fun k hk => Nat.le_trans HB0.out (HR.out.lt k hk).1))
 obtain ⟨q1, q2, q3, q4, q5⟩ := H1.out.step (Below.refl _ _) ⟨hg.size, fun k hk hne => hg.block k hk (fun e => hne (by rw [hn1]; exact e.symm))⟩ hv'
 have hs := bw_set (W0 := W0) (d := d2) (b := b) (i := 0) (v := v') (Nat.le_trans HB0.out HI.out.ge)
 rw [← hd2] at hs
 obtain ⟨va, vc, hve⟩ := hv'.form
 obtain ⟨n2, hn2⟩ : ∃ n2, BS.length = n2 := ⟨_, rfl⟩
 rw [hn2] at hve
 have HF := Lib.hid (And.intro q1 (And.intro (HK1.out.trans q2) hs))
 rw [hn1] at q3
 subst hve
 clear hv' hg ho q1 q2 hs hd2 hn2 hn1 hlt hc hf hB1
 go_wp2_with fail
 obtain ⟨ds, hds⟩ := HF.out.2.2
 exact bodyPost_end (v := .tuple #[]) (results_none rfl _ _ _) rfl ⟨rfl, _, ds, hds, HF.out.1, HF.out.2.1⟩
end Go.Proofs.YtcbicpbbjbkiaaaGreatDoor

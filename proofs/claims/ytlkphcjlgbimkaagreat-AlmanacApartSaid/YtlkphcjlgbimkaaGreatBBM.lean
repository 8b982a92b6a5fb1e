/- Contracts and plain laws, several texts in one: Ap2 -/
import Derived.Test.YtlkphcjlgbimkaaGreatProg
import Derived.WalkKit
import Derived.WalkSpells
import Derived.WalkLawsBesides
import Derived.Lib.Hide
import Derived.BigQuiet
import Derived.Test.YtlkphcjlgbimkaaGreatBAA
import Derived.Test.YtlkphcjlgbimkaaGreatBAB
import Derived.Test.YtlkphcjlgbimkaaGreatBBL
/- The law AlmanacApart: the walk. -/
namespace Go.Proofs.YtlkphcjlgbimkaaGreat
open Go.RowKit Go.Shelf

set_option maxHeartbeats 4000000 in
set_option maxRecDepth 100000 in
theorem law17_Apart (vp : Value) (lp : List PgV) {w : World} (hp : PgsD (InB w) w vp lp) (vs : Value) (ls : List StarV) (hv : SlG stR w vs ls) :
    Calls Tryz.prog 9 #[vp, vs] w fun e w' => e = .returned (.bool true) ∧ ∃ d, w' = bw w d := by
  have HAw := Lib.hid (fun W => law17_awake W)
  have HLa := Lib.hid (fun L => law17_largeX vp vs lp ls (lay w L) (hp.lay L) (hv.lay L))
  have HnA := Lib.hid (fun W => nil_Aries W)
  have HnW := Lib.hid (fun s W => nil_Where s W)
  have HnL := Lib.hid (fun s W => nil_Lha s W)
  have HnB := Lib.hid (fun W => nil_Bodies W)
  have HnC := Lib.hid (fun W => nil_Covers W)
  have HnP := Lib.hid (fun W => nil_Pages W)
  have HnS := Lib.hid (fun W => nil_Stars W)
  have HPP := Lib.hid hp
  have HVV := Lib.hid hv
  obtain ⟨pa, pc, rfl⟩ := pgs_form hp
  obtain ⟨sa, sc, rfl⟩ := hv.form
  obtain ⟨m, hm⟩ : ∃ m, ls.length = m := ⟨_, rfl⟩
  obtain ⟨q, hq⟩ : ∃ n, lp.length = n := ⟨_, rfl⟩
  have HM := Lib.hid hm
  have HQ := Lib.hid hq
  rw [hm] at HLa HVV ⊢
  rw [hq] at HLa HPP ⊢
  clear hp hv hm hq
  refine lay_start ?_
  go_enter Tryz.func9, Tryz.ntmps9
  go_wp2_with (first | (go_at_call 11; refine (HAw.out _).mono ?_; rintro e w' ⟨rfl, d1, rfl⟩))
  refine (HnA.out _).mono ?_
  rintro e w' ⟨rfl, d2, rfl⟩
  go_wp2_with fail
  refine (HnW.out _ _).mono ?_
  rintro e w' ⟨rfl, d3, rfl⟩
  rw [gv_g0]
  go_wp2_with fail
  refine (HnL.out _ _).mono ?_
  rintro e w' ⟨rfl, d4, rfl⟩
  go_wp2_with fail
  refine (HnB.out _).mono ?_
  rintro e w' ⟨rfl, d5, rfl⟩
  go_wp2_with fail
  refine (HnC.out _).mono ?_
  rintro e w' ⟨rfl, d6, rfl⟩
  go_wp2_with fail
  refine (HnP.out _).mono ?_
  rintro e w' ⟨rfl, d7, rfl⟩
  go_wp2_with fail
  refine (HnS.out _).mono ?_
  rintro e w' ⟨rfl, d8, rfl⟩
  go_wp2_with fail
  refine (HLa.out _).mono ?_
  rintro e w' ⟨r, rfl, hlg, d9, rfl⟩
  rw [lay_bw]
  obtain ⟨dA, hdA⟩ := lay_ex w [.inr d9, .inr d8, .inr d7, .inr d6, .inr d5, .inl (.cells #[.int .i64 0, .int .i64 0] 33 (0, 0)), .inr d4, .inl (.cells #[.int .i64 0, .int .i64 0, .int .i64 0, .int .i64 0, .int .i64 0, .int .i64 0, .int .i64 0, .int .i64 0] 35 (0, 0)), .inr d3, .inl (.cells #[.int .i64 0, .int .i64 0] 33 (0, 0)), .inr d2, .inr d1]
  rw [hdA, show bw w dA = lay w [.inr dA] from rfl]
  clear hdA
  generalize posn w [d2.n, d1.n] = j1
  generalize posn w [d3.n, 1, d2.n, d1.n] = j2
  generalize posn w [d4.n, 1, d3.n, 1, d2.n, d1.n] = j3
  clear d1 d2 d3 d4 d5 d6 d7 d8 d9 HnA HnW HnL HnB HnC HnP HnS HAw HLa
  cases r
  · obtain ⟨g1, g2, g3⟩ := hlg rfl
    have HSm := Lib.hid (lgP_few g3)
    clear hlg g3
    obtain ⟨lw, h1, h2, h3, h4⟩ := HPP.out
    have HCp := Lib.hid (fun L => cln_Page _ lw (lay w L) (h1.lay L) (by rw [h3]; have := HQ.out; omega))
    have HCs := Lib.hid (fun L => cln_Star _ ls (lay w L) (HVV.out.lay L) (by have := HM.out; omega))
    have HD := Lib.hid h4
    have e3 : lw.length = q := h3.trans HQ.out
    have HL3 := Lib.hid e3
    clear h1 h2 h3 h4 e3
    go_wp2_with fail
    refine (HCp.out _).mono ?_
    rintro e w' ⟨v', d1, rfl, rfl, hO⟩
    have HO0 := Lib.hid (owG_start0 hO HQ.out HL3.out HD.out)
    obtain ⟨va, vc, rfl⟩ := hO.form
    rw [HL3.out] at HO0 ⊢
    rw [show bw (lay w [.inr dA]) d1 = lay w [.inr ⟨dA.blocks ++ d1.blocks, d1.drawn⟩] from bw_bw _ _ _] at HO0 ⊢
    generalize (⟨dA.blocks ++ d1.blocks, d1.drawn⟩ : Ext) = dB at *
    clear hO HD HL3 lw HCp
    have HPb : Hid (∀ b, InB w b → b < w.heap.size) := Lib.hid fun _ h => h
    go_wp2_with fail
    go_loopw [82] (fun v82 wr => ∃ (i : Nat) (dd : Ext), i ≤ q ∧ v82 = .int .i64 (i : Int) ∧ wr = lay w [.inr dd] ∧ CqS (InB w) w q lp i (lay w [.inr dd]) (.slice va q vc)) (fun v82 _ => q - (intOf v82).toNat)
    case atStart => exact ⟨0, dB, Nat.zero_le _, rfl, rfl, HO0.out⟩
    case round =>
      obtain ⟨i, dd, hi, rfl, rfl, hO⟩ := hrel
      clear HO0
      by_cases hlt : i < q
      · obtain ⟨g0, cap, ls', hve, hg0, hgd, hO⟩ := hO.open hlt
        cases hve
        have HO := Lib.hid hO
        clear hO
        obtain ⟨p, hp⟩ : ∃ p, lp[i]? = some p := ⟨_, List.getElem?_eq_getElem (by rw [HQ.out]; exact hlt)⟩
        obtain ⟨x, hx⟩ : ∃ x, ls'[i]? = some x := ⟨_, List.getElem?_eq_getElem (by rw [HO.out.len, HQ.out]; exact hlt)⟩
        obtain ⟨lt, k1, k2, k3, k4⟩ := HO.out.old i x p hx hp (Nat.le_refl i)
        have hpm : p ∈ lp := List.mem_of_getElem? hp
        obtain ⟨htn, hgt⟩ := HSm.out p hpm
        have HCt := Lib.hid (cln_Track _ lt _ k1 (by omega))
        have HEn := Lib.hid (fun d a2 n2 c2 hrow => HO.out.enter HPb.out hx hp (d := d) (a2 := a2) (n2 := n2) (c2 := c2) hg0 hgd k1 k3 k4 hrow)
        have c3 := HO.out.own.cell pgOk hx (j := 3) (u := .slice x.ta x.tn x.tc) rfl
        have f3 := HO.out.own.froz (i * 4 + 3)
        change (lay w [.inr dd]).cell? ⟨g0, i * 4 + 3, none⟩ = _ at c3
        have x1 : (i : Int) < (q : Int) := by omega
        have x0 : (0 : Int) ≤ (i : Int) := by omega
        have HGt := Lib.hid hgt
        obtain ⟨nt, hnt⟩ : ∃ nt, p.ts.length = nt := ⟨_, rfl⟩
        have HNt := Lib.hid hnt
        rw [hnt] at htn
        have hltn : lt.length = nt := by rw [k3, hnt]
        have HLt := Lib.hid hltn
        clear k1 k2 k3 k4 hpm hx hp hnt hltn hgt
        generalize x.ta = xa at *
        generalize x.tn = xn at *
        generalize x.tc = xc at *
        go_wp2_with fail
        refine HCt.out.mono ?_
        rintro e w' ⟨v2, d2, rfl, rfl, hO2⟩
        obtain ⟨a2, c2, rfl⟩ := hO2.form
        rw [HLt.out] at hO2 ⊢
        have hE := HEn.out d2 a2 nt c2 hO2
        have f4 : (bw (lay w [.inr dd]) d2).frozen? ⟨g0, i * 4 + 3, none⟩ = false := by rw [bw_frozen _ _ _ _ hgd]; exact f3
        obtain ⟨d3, hd3⟩ := bw_storeG (w := w) (d := ⟨dd.blocks ++ d2.blocks, d2.drawn⟩) (g := g0) (i := i * 4 + 3) (v := .slice a2 nt c2) hg0
        have hww : bw (lay w [.inr dd]) d2 = bw w ⟨dd.blocks ++ d2.blocks, d2.drawn⟩ := bw_bw w dd d2
        have c4 : (bw (lay w [.inr dd]) d2).cell? ⟨g0, i * 4 + 3, none⟩ = some (.slice xa xn xc) := (bw_cell _ _ _ _ hgd).trans c3
        rw [hww] at f4 c4 ⊢
        rw [hww, hd3] at hE
        have HEt := Lib.hid hE
        obtain ⟨y, hy, hyv⟩ := hE.at_
        have c5 := hE.own.cell pgOk hy (j := 3) (u := .slice y.ta y.tn y.tc) rfl
        rw [← hyv] at c5
        change (bw w d3).cell? ⟨g0, i * 4 + 3, none⟩ = _ at c5
        have hgd3 : g0 < (bw w d3).heap.size := Nat.lt_of_lt_of_le hE.gS hE.sS
        have hS0 : w.heap.size ≤ (lay w [.inr dd]).heap.size := bw_le w dd
        clear hE hy hyv
        by_cases hn0 : nt = 0
        · subst hn0
          have HDn := Lib.hid (HEt.out.done (by rw [HNt.out]; exact Nat.le_refl _) hS0)
          go_wp2_with fail
          refine wp_loop_rounds 1 ?_
          rw [rounds_succ]
          go_wp2_with fail
          go_roundw
          case rel => exact ⟨i + 1, d3, by omega, by go_num, rfl, Or.inr ⟨by omega, g0, _, _, rfl, hg0, hgd3, HDn.out⟩⟩
          case measure => simp [intOf]; omega
        · obtain ⟨g1, c2', hgg, hg1, hg1W, hcap2⟩ := hO2.form1 (by rw [HLt.out]; omega)
          rw [HLt.out] at hgg
          cases hgg
          obtain ⟨LS, hLS⟩ : ∃ LS, ls'.set i { x with ta := some ⟨g1, 0, none⟩, tn := nt, tc := c2 } = LS := ⟨_, rfl⟩
          obtain ⟨S, hSe⟩ : ∃ S, (lay w [.inr dd]).heap.size = S := ⟨_, rfl⟩
          have HE1 : Hid (CqI (InB w) w g0 q vc lp i S (.slice (some ⟨g1, 0, none⟩) nt c2) p 0 (bw w d3) LS lt) := Lib.hid (by rw [← hLS, ← hSe]; exact HEt.out)
          have hg1d3 : g1 < (bw w d3).heap.size := by rw [← hd3, World.size_setCell, ← hww]; exact hg1W
          rw [hSe] at hS0 hg1
          clear HEt HEn hLS hSe hO2
          go_wp2_with fail
          clear hd3 hww f3 f4 c3 c4 c5
          go_loopw [101] (fun v101 wr => ∃ (k : Nat) (dk : Ext), k ≤ nt ∧ v101 = .int .i64 (k : Int) ∧ wr = lay w [.inr dk] ∧ g0 < (lay w [.inr dk]).heap.size ∧ g1 < (lay w [.inr dk]).heap.size ∧ ∃ lt', CqI (InB w) w g0 q vc lp i S (.slice (some ⟨g1, 0, none⟩) nt c2) p k (lay w [.inr dk]) LS lt') (fun v101 _ => nt - (intOf v101).toNat)
          case atStart => exact ⟨0, d3, Nat.zero_le _, rfl, rfl, hgd3, hg1d3, lt, HE1.out⟩
          case round =>
            obtain ⟨k, dk, hk, rfl, rfl, gk0, gk1, lt', hI⟩ := hrel
            have HI := Lib.hid hI
            clear hI
            by_cases hkt : k < nt
            · obtain ⟨t, htt⟩ : ∃ t, p.ts[k]? = some t := ⟨_, List.getElem?_eq_getElem (by rw [HNt.out]; exact hkt)⟩
              obtain ⟨z, hzz⟩ : ∃ z, lt'[k]? = some z := ⟨_, List.getElem?_eq_getElem (by rw [HI.out.tlen, HNt.out]; exact hkt)⟩
              obtain ⟨y, hy, hyv⟩ := HI.out.at_
              have c5 := HI.out.own.cell pgOk hy (j := 3) (u := .slice y.ta y.tn y.tc) rfl
              rw [← hyv] at c5
              change (lay w [.inr dk]).cell? ⟨g0, i * 4 + 3, none⟩ = _ at c5
              have c6 : (lay w [.inr dk]).cell? ⟨g1, k * 6 + 1, none⟩ = some (.slice z.ga z.gn z.gc) := HI.out.row.cell tkOk hzz (j := 1) rfl
              have c7 : (lay w [.inr dk]).cell? ⟨g1, k * 6 + 2, none⟩ = some (.slice z.da z.dn z.dc) := HI.out.row.cell tkOk hzz (j := 2) rfl
              have C5 := Lib.hid c5
              have C7 := Lib.hid c7
              have c5q : ∀ d, (lay w [.inr d, .inr dk]).cell? ⟨g0, i * 4 + 3, none⟩ = some (.slice (some ⟨g1, 0, none⟩) nt c2) := fun d => (bw_cell _ d _ _ gk0).trans c5
              have c6q : ∀ d, (lay w [.inr d, .inr dk]).cell? ⟨g1, k * 6 + 1, none⟩ = some (.slice z.ga z.gn z.gc) := fun d => (bw_cell _ d _ _ gk1).trans c6
              have fz := HI.out.row.froz (k * 6 + 1)
              have fz2 := HI.out.row.froz (k * 6 + 2)
              have FZ2 := Lib.hid fz2
              obtain ⟨t1, t2⟩ := HI.out.told k z t hzz htt (Nat.le_refl k)
              have hgt := HGt.out t (List.mem_of_getElem? htt)
              have HCA := Lib.hid (fun d => cln_IntN _ t.g (bw (lay w [.inr dk]) d) (t1.bw d) (by omega))
              have HT2 := Lib.hid t2
              have HTl := Lib.hid hgt
              have HSt := Lib.hid (fun d e A nA cA hA W1 hW1 => cqI_half HI.out HPb.out hS0 hzz htt hg1 gk1 (d := d) (e := e) (A := A) (nA := nA) (cA := cA) hA (W1 := W1) hW1)
              have y1 : (k : Int) < (nt : Int) := by omega
              have y0 : (0 : Int) ≤ (k : Int) := by omega
              have HG01 : Hid (g0 < g1) := Lib.hid (Nat.lt_of_lt_of_le HI.out.gS hg1)
              clear hy hyv hzz htt t1 t2 hgt c7 fz2
              generalize z.ga = za at *
              generalize z.gn = zn at *
              generalize z.gc = zc at *
              generalize z.da = zda at *
              generalize z.dn = zdn at *
              generalize z.dc = zdc at *
              go_wp2_with fail
              refine region_mixS 18 [(0, 2), (1, 2), (2, 2), (3, 2), (5, 2), (6, 2), (7, 2), (8, 2), (9, 2), (11, 2), (4, 0), (10, 0), (12, 2), (13, 2), (14, 0), (15, 1), (16, 2), (17, 2), (18, 3)] (by kernel_rfl) (by kernel_rfl) (by kernel_rfl) rfl ?_
              repeat (first | (refine wpMS_pure rfl (fun K hK => ?_); go_simp; refine hK _ ?_; clear hK K) | (refine wpMS_quiet rfl (fun K hK => ?_); go_simp; first | (refine hK _ ?_; clear hK K) | (apply Exists.intro; refine ⟨fun _ => ?_, hK _ ?_⟩; (first | fail); clear hK K)))
              refine wpMS_special rfl (fun K hK e1 => ?_)
              go_simp
              refine (HCA.out e1).mono ?_
              rintro e w' ⟨A, nA, cA, dX, rfl, rfl, hA⟩
              have HA1 := Lib.hid hA
              clear hA
              refine ⟨_, rfl, ?_⟩
              obtain ⟨dT, hdT⟩ := lay_in w [.inr dX, .inr e1] [.inr dk]
              refine hK _ _ ⟨dT, hdT⟩ ?_
              clear hK K
              rw [show bw (bw (lay w [.inr dk]) e1) dX = bw (lay w [.inr dk]) dT from hdT]
              repeat (first | (refine wpMS_pure rfl (fun K hK => ?_); go_simp; refine hK _ ?_; clear hK K) | (refine wpMS_quiet rfl (fun K hK => ?_); go_simp; first | (refine hK _ ?_; clear hK K) | (apply Exists.intro; refine ⟨fun _ => ?_, hK _ ?_⟩; (first | fail); clear hK K)))
              refine wpMS_store rfl (fun K hK e3 => ?_)
              obtain ⟨dU, hdU⟩ : ∃ x, bw (bw (lay w [.inr dk]) dT) e3 = bw (lay w [.inr dk]) x := ⟨_, bw_bw _ _ _⟩
              rw [hdU]
              have hA2 : LsP (fun b => (lay w [.inr dk]).heap.size ≤ b ∧ b < (bw (lay w [.inr dk]) dU).heap.size ∧ NF (bw (lay w [.inr dk]) dU) b) (bw (lay w [.inr dk]) dU) (.slice A nA cA) t.g := by
                rw [← hdU, ← hdT]
                exact lsN_bw (HA1.out.mono fun b hb => ⟨Nat.le_trans (bw_le _ e1) hb.1, hb.2⟩) e3
              have HSt2 := Lib.hid (fun e W1 hW1 => HSt.out dU e A nA cA hA2 W1 hW1)
              clear hA2 hdU hdT HA1 HSt
              have f6 : (lay w [.inr dU, .inr dk]).frozen? ⟨g1, k * 6 + 1, none⟩ = false := (bw_frozen _ dU _ _ gk1).trans fz
              have c6u := c6q dU
              go_simp
              refine hK _ _ ?_
              clear hK K
              refine wpMS_nil (fun e4 => ?_)
              obtain ⟨dY, hdY, gY0, gY1, c5y, c7y, f7y, hT2⟩ := half_out (w := w) (dk := dk) (dU := dU) (e := e4) (g0 := g0) (g1 := g1) (i := i) (k := k) (v := .slice A nA cA) (Nat.le_trans hS0 hg1) gk0 gk1 HG01.out C5.out C7.out FZ2.out HT2.out HPb.out
              have HSt3 := Lib.hid (HSt2.out e4 _ hdY.symm)
              clear HSt2
              change bw ((lay w [.inr dU, .inr dk]).setCell _ _) e4 = _ at hdY
              rw [hdY]
              clear hdY c5 c6 c5q c6q fz f6 c6u dT dU C5 C7 FZ2 HT2
              have HCB := Lib.hid (fun d => cln_IntN _ t.d (bw (lay w [.inr dY]) d) (hT2.bw d) (by have := HTl.out; omega))
              have c5 := c5y
              have c5q : ∀ d, (lay w [.inr d, .inr dY]).cell? ⟨g0, i * 4 + 3, none⟩ = some (.slice (some ⟨g1, 0, none⟩) nt c2) := fun d => (bw_cell _ d _ _ gY0).trans c5y
              have c7q : ∀ d, (lay w [.inr d, .inr dY]).cell? ⟨g1, k * 6 + 2, none⟩ = some (.slice zda zdn zdc) := fun d => (bw_cell _ d _ _ gY1).trans c7y
              clear hT2
              go_wp2_with fail
              refine region_mixS 18 [(0, 2), (1, 2), (2, 2), (3, 2), (5, 2), (6, 2), (7, 2), (8, 2), (9, 2), (11, 2), (4, 0), (10, 0), (12, 2), (13, 2), (14, 0), (15, 1), (16, 2), (17, 2), (18, 3)] (by kernel_rfl) (by kernel_rfl) (by kernel_rfl) rfl ?_
              repeat (first | (refine wpMS_pure rfl (fun K hK => ?_); go_simp; refine hK _ ?_; clear hK K) | (refine wpMS_quiet rfl (fun K hK => ?_); go_simp; first | (refine hK _ ?_; clear hK K) | (apply Exists.intro; refine ⟨fun _ => ?_, hK _ ?_⟩; (first | fail); clear hK K)))
              refine wpMS_special rfl (fun K hK e1 => ?_)
              go_simp
              refine (HCB.out e1).mono ?_
              rintro e w' ⟨B, nB, cB, dX, rfl, rfl, hA⟩
              have HA1 := Lib.hid hA
              clear hA
              refine ⟨_, rfl, ?_⟩
              obtain ⟨dT, hdT⟩ := lay_in w [.inr dX, .inr e1] [.inr dY]
              refine hK _ _ ⟨dT, hdT⟩ ?_
              clear hK K
              rw [show bw (bw (lay w [.inr dY]) e1) dX = bw (lay w [.inr dY]) dT from hdT]
              repeat (first | (refine wpMS_pure rfl (fun K hK => ?_); go_simp; refine hK _ ?_; clear hK K) | (refine wpMS_quiet rfl (fun K hK => ?_); go_simp; first | (refine hK _ ?_; clear hK K) | (apply Exists.intro; refine ⟨fun _ => ?_, hK _ ?_⟩; (first | fail); clear hK K)))
              refine wpMS_store rfl (fun K hK e3 => ?_)
              obtain ⟨dU, hdU⟩ : ∃ x, bw (bw (lay w [.inr dY]) dT) e3 = bw (lay w [.inr dY]) x := ⟨_, bw_bw _ _ _⟩
              rw [hdU]
              have hA2 : LsP (fun b => (lay w [.inr dY]).heap.size ≤ b ∧ b < (bw (lay w [.inr dY]) dU).heap.size ∧ NF (bw (lay w [.inr dY]) dU) b) (bw (lay w [.inr dY]) dU) (.slice B nB cB) t.d := by
                rw [← hdU, ← hdT]
                exact lsN_bw (HA1.out.mono fun b hb => ⟨Nat.le_trans (bw_le _ e1) hb.1, hb.2⟩) e3
              have HFin := Lib.hid (HSt3.out dU B nB cB hA2)
              clear hA2 hdU hdT HA1 HSt3
              have f6 : (lay w [.inr dU, .inr dY]).frozen? ⟨g1, k * 6 + 2, none⟩ = false := (bw_frozen _ dU _ _ gY1).trans f7y
              have c7u := c7q dU
              go_simp
              refine hK _ _ ?_
              clear hK K
              refine wpMS_nil (fun e4 => ?_)
              obtain ⟨dZ, hdZ, gZ0, gZ1⟩ := half_end (w := w) (dY := dY) (dU := dU) (e := e4) (g1 := g1) (j := k * 6 + 2) (v := .slice B nB cB) (Nat.le_trans hS0 hg1) gY0 gY1
              have HFin2 : Hid (∃ LT, CqI (InB w) w g0 q vc lp i S (.slice (some ⟨g1, 0, none⟩) nt c2) p (k + 1) (lay w [.inr dZ]) LS LT) := Lib.hid (by
                obtain ⟨LT, h⟩ := HFin.out
                exact ⟨LT, by rw [← hdZ]; exact h.bw e4⟩)
              clear HFin
              change bw ((lay w [.inr dU, .inr dY]).setCell _ _) e4 = _ at hdZ
              rw [hdZ]
              clear hdZ
              go_wp2_with fail
              go_roundw
              case rel => exact ⟨k + 1, dZ, by omega, by go_num, rfl, gZ0, gZ1, HFin2.out⟩
              case measure => simp [intOf]; omega
            · obtain rfl : k = nt := by omega
              have HDn := Lib.hid (HI.out.done (by rw [HNt.out]; exact Nat.le_refl _) hS0)
              have y1 : ¬ (k : Int) < (k : Int) := by omega
              go_wp2_with fail
              go_roundw
              case rel => exact ⟨i + 1, dk, by omega, by go_num, rfl, Or.inr ⟨by omega, g0, _, _, rfl, hg0, gk0, HDn.out⟩⟩
              case measure => simp [intOf]; omega
      · obtain rfl : i = q := by omega
        have HB := Lib.hid (hO.done HQ.out (Nat.le_refl _))
        clear hO
        have x1 : ¬ (i : Int) < (i : Int) := by omega
        go_wp2_with fail
        refine (HCs.out _).mono ?_
        rintro e w' ⟨vk, d1, rfl, rfl, hO⟩
        obtain ⟨D, hD⟩ : ∃ D, bw (lay w [.inr dd]) d1 = bw w D := ⟨_, bw_bw _ _ _⟩
        have hB1 : PgsD (OwnP w (bw w D)) (bw w D) (.slice va i vc) lp := by
          rw [← hD]
          exact ownP_pgs HB.out d1
        have hS1 : SlG stR (bw w D) vk ls := by rw [← hD]; exact hO.sl stOk
        have hK1 : Blk (OwnP w (bw w D)) vk := by rw [← hD]; exact owG_blkN hO (bw_le w dd)
        obtain ⟨ka, kc, rfl⟩ := hO.form
        have HMn := Lib.hid (fun h => law17_made_no (.slice va i vc) (.slice ka ls.length kc) lp ls (bw w D) hB1 (fun b hb => hb.2.1) hS1 h)
        have HMy := Lib.hid (fun h => law17_made_yes (.slice va i vc) (.slice ka ls.length kc) lp ls (bw w D) hB1 (fun b hb => hb.2.1) hS1 h)
        have HB1 := Lib.hid hB1
        have HS1 := Lib.hid hS1
        have HK1 := Lib.hid hK1
        rw [HM.out] at HMn HMy HS1 HK1 ⊢
        rw [hD, show bw w D = lay w [.inr D] from rfl]
        clear hB1 hS1 hK1 hO hD HB HCs HSm HPb
        have eI : ∀ args w, (callFunc 46 args).run Tryz.prog w = .ok (.enter 46 args) w := enters_of Tryz.func46 (by kernel_rfl) rfl
        go_wp2_with fail
        by_cases hE : newE lp ls = 0
        · have hk := Lib.hid (newE_0 hE)
          refine (HMy.out hE).mono ?_
          rintro e w' ⟨bk, d3, rfl, rfl, hB⟩
          obtain ⟨D3, hD3⟩ : ∃ D3, bw (bw w D) d3 = bw w D3 := ⟨_, bw_bw _ _ _⟩
          rw [hD3] at hB ⊢
          have HBk := Lib.hid hB
          have HSp := Lib.hid (law17_spoil (P := OwnP w (bw w D)) (.slice va i vc) (.slice ka m kc) lp ls w D3 (by rw [← hD3]; exact HB1.out.keep (bw_le _ _) fun b hb _ => bw_get _ _ b hb.2.1) (by rw [← hD3]; exact HS1.out.bw d3) HK1.out (fun b hb => ⟨hb.1, by rw [← hD3]; exact hb.2.2.bw hb.2.1 d3⟩))
          clear hB hD3 HMn HMy HB1 HS1 HK1 hE
          rw [show bw w D3 = lay w [.inr D3] from rfl]
          go_wp2_with fail
          refine HSp.out.mono ?_
          rintro e w' ⟨rfl, d4, rfl, hKp⟩
          have HB4 := Lib.hid (HBk.out.kp hKp fun b h1 _ hp => absurd hp.2.1 (Nat.not_lt_of_le h1))
          clear hKp HSp HBk
          have HPn := made_PagesN HB4.out hk.out
          have HSn := made_Stars HB4.out hk.out
          rw [show bw w d4 = lay w [.inr d4] from rfl]
          go_wp2_with fail
          refine (HPn.out []).mono ?_
          rintro e w' ⟨wa, wc, d5, rfl, rfl, hP5⟩
          change PgsD (OwnP (bw w d4) (bw (bw w d4) d5)) (bw (bw w d4) d5) _ _ at hP5
          have HP5 := Lib.hid hP5
          clear hP5
          rw [HQ.out] at HP5 ⊢
          rw [show bw (lay (bw w d4) []) d5 = lay w [.inr d5, .inr d4] from rfl]
          go_wp2_with fail
          refine (HSn.out [.inr d5]).mono ?_
          rintro e w' ⟨vt, d6, rfl, rfl, hO⟩
          obtain ⟨d7, hd7⟩ : ∃ D, bw (bw (bw w d4) d5) d6 = bw w D := ⟨_, by rw [bw_bw, bw_bw]⟩
          obtain ⟨d8, hd8⟩ : ∃ D, bw (bw (bw w d4) d5) d6 = bw (bw w d4) D := ⟨_, by rw [bw_bw]⟩
          have hP7 : PgsD (OwnP (bw w d4) (bw w d7)) (bw w d7) (.slice wa i wc) lp := by rw [← hd7]; exact ownP_pgs HP5.out d6
          have hS7 : SlG stR (bw w d7) vt ls := by rw [← hd7]; exact hO.sl stOk
          have hK7 : Blk (OwnP (bw w d4) (bw w d7)) vt := by rw [← hd7]; exact owG_blkN hO (bw_le (bw w d4) d5)
          obtain ⟨ta, tc, rfl⟩ := hO.form
          have HSp := Lib.hid (law17_spoil (P := OwnP (bw w d4) (bw w d7)) (.slice wa i wc) (.slice ta ls.length tc) lp ls w d7 hP7 hS7 hK7 (fun b hb => ⟨Nat.le_trans (bw_le w d4) hb.1, hb.2.2⟩))
          have HD8 : Hid (bw w d7 = bw (bw w d4) d8) := Lib.hid (hd7.symm.trans hd8)
          rw [HM.out] at HSp ⊢
          rw [show bw (lay (bw w d4) [.inr d5]) d6 = lay w [.inr d7] from hd7]
          clear hd7 hd8 hP7 hS7 hK7 hO HP5 HPn HSn
          go_wp2_with fail
          refine HSp.out.mono ?_
          rintro e w' ⟨rfl, d9, rfl, hKp⟩
          have HB9 := Lib.hid (bkA_since HB4.out HD8.out hKp)
          clear hKp HSp HB4 HD8
          have HBn := made_Bodies HB9.out hk.out
          rw [show bw w d9 = lay w [.inr d9] from rfl]
          go_wp2_with fail
          refine (HBn.out []).mono ?_
          rintro e w' ⟨vt, d10, rfl, rfl, hO⟩
          obtain ⟨T, hT⟩ : ∃ T, [ariesS] ++ tkL lp ++ ls.map StarV.s = T := ⟨_, rfl⟩
          rw [hT] at hO
          have HT := Lib.hid hT
          obtain ⟨d11, hd11⟩ : ∃ D, bw (bw w d9) d10 = bw w D := ⟨_, bw_bw _ _ _⟩
          have hS11 : SlG strR (bw w d11) vt T := by rw [← hd11]; exact hO.sl strOk
          have hK11 : Blk (OwnP (bw w d9) (bw w d11)) vt := by rw [← hd11]; exact owG_blkN hO (Nat.le_refl _)
          obtain ⟨ta, tc, rfl⟩ := hO.form
          have HS11 := Lib.hid hS11
          have HK11 := Lib.hid hK11
          have HD11 : Hid (bw w d11 = bw (bw w d9) d10) := Lib.hid hd11.symm
          obtain ⟨n, hn⟩ : ∃ n, T.length = n := ⟨_, rfl⟩
          have HN := Lib.hid hn
          rw [hn] at HS11 HK11 ⊢
          rw [show bw (lay (bw w d9) []) d10 = lay w [.inr d11] from hd11]
          clear hT hO hd11 hS11 hK11 hn HBn
          go_wp2_with fail
          go_loopw [171] (fun v171 wr => ∃ (k : Nat) (dk : Ext), k ≤ n ∧ v171 = .int .i64 (k : Int) ∧ wr = lay w [.inr dk] ∧ Kp (OwnP (bw w d9) (bw w d11)) (bw w d11) (bw w dk)) (fun v171 _ => n - (intOf v171).toNat)
          case atStart => exact ⟨0, d11, Nat.zero_le _, rfl, rfl, Kp.refl _ _⟩
          case round =>
            obtain ⟨k, dk, hk2, rfl, rfl, hK⟩ := hrel
            have HK := Lib.hid hK
            clear hK
            by_cases hkt : k < n
            · obtain ⟨t, htt⟩ : ∃ t, T[k]? = some t := ⟨_, List.getElem?_eq_getElem (by rw [HN.out]; exact hkt)⟩
              obtain ⟨b2, o2, cap2, hv', hcc2, hb2, hr2⟩ := HS11.out.open (by rw [HN.out]; omega)
              rw [HN.out] at hv' hcc2
              cases hv'
              have e0 := hr2 k t htt 0 _ rfl
              have hPb2 := HK11.out b2 o2 n _ rfl (by omega)
              have hPall : ∀ b, OwnP (bw w d9) (bw w d11) b → w.heap.size ≤ b ∧ NF (bw w d11) b := fun b hb => ⟨Nat.le_trans (bw_le w d9) hb.1, hb.2.2⟩
              rw [show o2 + (k * strR.k + 0) = o2 + k from by show o2 + (k * 1 + 0) = _; omega] at e0
              obtain ⟨d3, w3, hK3⟩ := kp_set hPall (i := o2 + k) (v := .string ⟨#[122]⟩) hPb2 hb2 e0 ⟨_, rfl⟩ HK.out
              have HK3 := Lib.hid hK3
              have HW3 := Lib.hid w3
              obtain ⟨u0, g0, -⟩ := HK.out.cell b2 _ _ hb2 e0
              have f0 := (HK.out.froz b2 (o2 + k) hb2).trans ((hPall b2 hPb2).2 _)
              change (lay w [.inr dk]).cell? _ = _ at g0
              change (lay w [.inr dk]).frozen? _ = _ at f0
              have y1 : (k : Int) < (n : Int) := by omega
              have y0 : (0 : Int) ≤ (k : Int) := by omega
              clear htt hr2 hK3 e0 w3 hPb2 hPall
              go_wp2_with fail
              go_roundw
              case rel => exact ⟨k + 1, d3, by omega, by go_num, HW3.out, HK3.out⟩
              case measure => simp [intOf]; omega
            · obtain rfl : k = n := by omega
              have y1 : ¬ (k : Int) < (k : Int) := by omega
              have HBz := Lib.hid (bkA_since HB9.out HD11.out HK.out)
              clear HB9 HD11 HK HS11 HK11
              have HB := made_Bodies HBz.out hk.out
              have HP := made_Pages HBz.out hk.out
              have HS := made_Stars HBz.out hk.out
              have HBd := (rfL_of HPP.out HVV.out hk.out).bodies
              have HPg := Lib.hid (fun A B L (hA : PgsD A (lay w L) B lp) => pgs_EqualFunc B _ lp (lay w L) hA (HPP.out.lay L))
              have HSt := Lib.hid (fun B L (hB : SlG stR (lay w L) B ls) => st_Equal B _ ls (lay w L) hB (HVV.out.lay L))
              rw [HT.out] at HB HBd
              go_wp2_with fail
              refine (HP.out []).mono ?_
              rintro e w' ⟨wa, wc, d5, rfl, rfl, hA⟩
              have H3 := Lib.hid hA
              clear hA
              change Hid (PgsD _ (lay w [.inr d5, .inr dk]) _ _) at H3
              rw [HQ.out] at H3 ⊢
              rw [show bw (lay (bw w dk) []) d5 = lay w [.inr d5, .inr dk] from rfl]
              go_wp2_with fail
              refine (HPg.out _ _ [.inr d5, .inr dk] H3.out).mono ?_
              rintro e w' ⟨rfl, d6, rfl⟩
              go_wp2_with fail
              refine (HS.out [.inr d6, .inr d5]).mono ?_
              rintro e w' ⟨vt, d7, rfl, rfl, hO⟩
              obtain ⟨ta, tc, rfl⟩ := hO.form
              have H4 := Lib.hid (hO.sl stOk)
              clear hO
              change Hid (SlG stR (lay w [.inr d7, .inr d6, .inr d5, .inr dk]) _ _) at H4
              rw [HM.out] at H4 ⊢
              rw [show bw (lay (bw w dk) [.inr d6, .inr d5]) d7 = lay w [.inr d7, .inr d6, .inr d5, .inr dk] from rfl]
              go_wp2_with fail
              refine (HSt.out _ [.inr d7, .inr d6, .inr d5, .inr dk] H4.out).mono ?_
              rintro e w' ⟨rfl, d8, rfl⟩
              go_wp2_with fail
              refine (HB.out [.inr d8, .inr d7, .inr d6, .inr d5]).mono ?_
              rintro e w' ⟨vt, d9, rfl, rfl, hO⟩
              obtain ⟨ua, uc, rfl⟩ := hO.form
              have H5 := Lib.hid (hO.sl strOk)
              clear hO
              change Hid (SlG strR (lay w [.inr d9, .inr d8, .inr d7, .inr d6, .inr d5, .inr dk]) _ _) at H5
              rw [show bw (lay (bw w dk) [.inr d8, .inr d7, .inr d6, .inr d5]) d9 = lay w [.inr d9, .inr d8, .inr d7, .inr d6, .inr d5, .inr dk] from rfl]
              go_wp2_with fail
              refine (HBd.out [.inr d9, .inr d8, .inr d7, .inr d6, .inr d5, .inr dk]).mono ?_
              rintro e w' ⟨vt, d10, rfl, rfl, hO⟩
              obtain ⟨ra, rc, rfl⟩ := hO.form
              have H6 := Lib.hid (hO.sl strOk)
              clear hO
              rw [lay_bw] at H6 ⊢
              go_wp2_with fail
              refine (str_Equal _ _ T T _ (slG_on (A := [_]) H5.out) H6.out).mono ?_
              rintro e w' ⟨rfl, d11, rfl⟩
              rw [decide_eq_true rfl]
              go_wp2_with fail
              go_ret
              exact ⟨rfl, lay_ex _ _⟩
        · refine (HMn.out hE).mono ?_
          rintro e w' ⟨rfl, d3, rfl⟩
          rw [show bw w D = lay w [.inr D] from rfl]
          go_wp2_with fail
          go_ret
          exact ⟨rfl, lay_ex _ _⟩
  · go_wp2_with fail
    go_ret
    exact ⟨rfl, lay_ex _ _⟩
end Go.Proofs.YtlkphcjlgbimkaaGreat

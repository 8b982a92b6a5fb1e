/- Contracts and plain laws, several texts in one: PrA; PrB -/
import Derived.Test.YtcbicpbbjbkiaaaGreatDoorProg
import Derived.WalkKit
import Derived.WalkSpells
import Derived.WalkLawsBesides
import Derived.Lib.Hide
import Derived.BigQuiet
import Derived.Test.YtcbicpbbjbkiaaaGreatDoorZmAA
import Derived.Test.YtcbicpbbjbkiaaaGreatDoorZmAC
import Derived.Test.YtcbicpbbjbkiaaaGreatDoorZmAQ
import Derived.Test.YtcbicpbbjbkiaaaGreatDoorZmAS
import Derived.Test.YtcbicpbbjbkiaaaGreatDoorZmAT
import Derived.Test.YtcbicpbbjbkiaaaGreatDoorZmAU
namespace Go.Proofs.YtcbicpbbjbkiaaaGreatDoor
open Go.RowKit

def aR : RecT (Int × Int) := { E := 29, S := 35, k := 2, bytes := 16, enc := fun x => [.int .i64 x.1, .int .i64 x.2], wf := fun x => PrA x.1 x.2 }
theorem info_aR : (Tryz.prog.info? 29).map (fun i => (i.zero.map (fun z => z.cells.size), i.size, i.bytes)) = some (some 2, 2, 16) := by kernel_rfl
theorem aOk : RecOk aR where
 len _ := rfl
 one x u hu := by
  simp only [aR, List.mem_cons, List.not_mem_nil, or_false] at hu
  rcases hu with rfl | rfl <;> rfl
 pos := by decide
 und := Tryz.underlying35
 info := recInfo info_aR
 small := by decide
theorem tp_solve (x0 x1 y0 y1 z0 z1 : Int) (h : triB x0 x1 y0 y1 z0 z1 = true) : ∃ H0 H1 Z0 Z1 : Int, PrA H0 H1 ∧ PrA Z0 Z1 ∧ ∀ w, Calls Tryz.prog 6 #[(.agg #[.int .i64 (x0), .int .i64 (x1), .int .i64 (y0), .int .i64 (y1), .int .i64 (z0), .int .i64 (z1)])] w fun e w' => e = .returned (.tuple #[(.agg #[.int .i64 (H0), .int .i64 (H1), .int .i64 (Z0), .int .i64 (Z1)]), .int .i64 0]) ∧ ∃ d, w' = bw w d := by
 obtain ⟨-, b1, b2, b3⟩ := al_bd h
 have b4 := brF_bd (azX x0 x1 y0 y1 z0 z1).1 (azX x0 x1 y0 y1 z0 z1).2 (azY y0 y1 z0 z1).1 (azY y0 y1 z0 z1).2
 refine ⟨_, _, _, _, ?_, ?_, fun w => cos_Solve x0 x1 y0 y1 z0 z1 w h⟩
 ·exact ⟨b2, by omega, by omega⟩
 ·unfold azF; exact ⟨b4.2.1, by omega, by omega⟩
def PrR (w w5 : World) (v : Value) (n : Nat) : Prop := ∃ l5 : List (Int × Int), l5.length = n ∧ OwG aR w5 w.heap.size v l5 ∧ TpW w5 ∧ ∃ d, w5 = bw w d
theorem PrR.form {w w5 : World} {v : Value} {n : Nat} (h : PrR w w5 v n) (hn : 0 < n) : ∃ ga ca, v = .slice (some ⟨ga, 0, none⟩) n ca ∧ ga < w5.heap.size := by
 obtain ⟨l5, rfl, h1, -, -⟩ := h
 obtain ⟨g, cap, rfl, -, h2, -, -⟩ := h1.form1 hn
 exact ⟨g, cap, rfl, h2⟩
theorem PrR.at_ {w w5 : World} {ga n ca : Nat} (h : PrR w w5 (.slice (some ⟨ga, 0, none⟩) n ca) n) {i : Nat} (hi : i < n) : ∃ u1 u2 : Int, w5.cell? ⟨ga, i * 2, none⟩ = some (.int .i64 u1) ∧ w5.cell? ⟨ga, i * 2 + 1, none⟩ = some (.int .i64 u2) ∧ PrA u1 u2 := by
 obtain ⟨l5, hl, h1, -, -⟩ := h
 have hx : l5[i]? = some l5[i] := List.getElem?_eq_getElem (by omega)
 have c0 := h1.cell aOk (j := 0) (u := .int .i64 l5[i].1) hx rfl
 have c1 := h1.cell aOk (j := 1) (u := .int .i64 l5[i].2) hx rfl
 exact ⟨_, _, c0, c1, h1.2 _ (List.mem_of_getElem? hx)⟩
theorem prR_of {w w5 : World} {B : Nat} {v : Value} {l : List (Int × Int)} {n : Nat} (h : OwG aR w5 B v l) (hB : w.heap.size ≤ B) (hl : l.length = n) (hT : TpW w) (hw : ∃ d, w5 = bw w d) : PrR w w5 v n := by
 obtain ⟨d, rfl⟩ := hw
 exact ⟨l, hl, h.le hB, hT.bw d, d, rfl⟩
theorem tp_cutP (a b c d : Int) (h1 : PrA a b) (h2 : PrA c d) (w : World) (hT : TpW w) :
  Calls Tryz.prog 11 #[.string (strB (plcL a b c d)), .string ⟨#[59, 32]⟩] w fun e w' => e = .returned (.tuple #[.string (strB (prnL a b)), .string (strB (prnL c d)), .bool true]) ∧ ∃ d, w' = bw w d := by
 have l1 := prn_len h1.1 h1.2.1 h1.2.2
 have l2 := prn_len h2.1 h2.2.1 h2.2.2
 exact tp_Cut (plcL a b c d) [59, 32] _ _ _ (plc_cut a b c d) (by unfold plcL; simp only [List.length_append, List.length_cons, List.length_nil]; omega) w hT
theorem own_ne {W : World} {B : Nat} {v : Value} {l : List (Int × Int)} {k : Nat} {cs : Array Value} {t : TypeId} {f : Nat × Nat} (h : OwG aR W B v l) (hk : W.heap[k]? = some (.cells cs t f)) (ht : t ≠ 29) : v.ownBlock ≠ some k := by
 intro e
 rcases h.1.2 with ⟨rfl, -⟩ | ⟨g, cap, cur, rfl, -, h2, -⟩
 ·cases e
 ·have : g = k := by simpa [Value.ownBlock] using e
  subst this
  rw [hk] at h2
  have h3 := Option.some.inj h2
  injection h3 with _ h4 _
  exact ht h4
set_option maxHeartbeats 4000000 in
set_option maxRecDepth 100000 in
theorem law_printed (ix : Int) (v : Value) (l : List ErV) (s : ByteArray) (lm t0 t1 hs by_ hzn ey sh tp pr g0 g1 c0 c1 m0 m1 p0 p1 x0 x1 y0 y1 z0 z1 : Int) (w : World) (hT : TpW w) (hv : SlG eR w v l) (hb : s.size ≤ 9223372036854775807) :
  Calls Tryz.prog 3 #[.agg #[.int .i64 ix, v], .agg #[.string s, .int .i64 lm, .int .i64 t0, .int .i64 t1, .int .i64 hs, .int .i64 by_, .int .i64 hzn, .int .i64 ey, .int .i64 sh, .int .i64 tp, .int .i64 pr], .agg #[.int .i64 g0, .int .i64 g1, .int .i64 c0, .int .i64 c1, .int .i64 m0, .int .i64 m1, .int .i64 p0, .int .i64 p1], (.agg #[.int .i64 (x0), .int .i64 (x1), .int .i64 (y0), .int .i64 (y1), .int .i64 (z0), .int .i64 (z1)])] w fun e w' => e = .returned (.bool true) ∧ ∃ d, w' = bw w d := by
 have HT := Lib.hid hT
 have HR := Lib.hid (fun L => rec_awake (lay w L) (hT.lay L))
 have HS := Lib.hid (tp_solve x0 x1 y0 y1 z0 z1)
 have HSB := Lib.hid (fun (h : triB x0 x1 y0 y1 z0 z1 = false) W => cos_SolveBad x0 x1 y0 y1 z0 z1 W h)
 have HR25 := Lib.hid (fun W => tp_r25Valid x0 x1 y0 y1 z0 z1 W)
 have HW := Lib.hid (fun L => cor_Work ix v l s lm t0 t1 hs by_ hzn ey sh tp pr g0 g1 c0 c1 m0 m1 p0 p1 (lay w L) (hv.lay L) hb)
 obtain ⟨ea, ec, rfl⟩ := hv.form
 obtain ⟨en, hen⟩ : ∃ en, l.length = en := ⟨_, rfl⟩
 rw [hen] at HW ⊢
 clear hT hv hen hb
 refine lay_start ?_
 go_enter Tryz.func3, Tryz.ntmps3
 go_wp2_with fail
 refine (HR.out _).mono ?_
 rintro e w' ⟨rfl, d0, rfl⟩
 rw [lay_bw]
 go_wp2_with fail
 ·exact bodyPost_ret (v := .bool true) (by simp [results, Tryz.results3, go_sem]) rfl ⟨rfl, lay_ex _ _⟩
 rotate_left
 ·exact bodyPost_ret (v := .bool true) (by simp [results, Tryz.results3, go_sem]) rfl ⟨rfl, lay_ex _ _⟩
 -- the ways
 refine (HW.out _).mono ?_
 rintro e w' ⟨⟨qi0, qi1, qd0, qd1, qr0, qr1, qp0, qp1, qs0, qs1, qa0, qa1, qo0, qo1, k, hk, -, rfl⟩, dW, rfl⟩
 rw [lay_bw]
 by_cases hk0 : k = 0
 ·subst hk0
  have HK := Lib.hid (hk rfl)
  clear hk
  generalize hv0 : Value.slice none 0 0 = v0
  have HNil := Lib.hid hv0
  clear hv0
  go_wp2_with (at_builtin; refine push_litK aOk rfl _ _ rfl (lay w [.inr d0, .inl (.cells #[.int .i64 x0, .int .i64 x1, .int .i64 y0, .int .i64 y1, .int .i64 z0, .int .i64 z1] 33 (0, 0)), .inl (.cells #[.int .i64 g0, .int .i64 g1, .int .i64 c0, .int .i64 c1, .int .i64 m0, .int .i64 m1, .int .i64 p0, .int .i64 p1] 31 (0, 0)), .inl (.cells #[.string s, .int .i64 lm, .int .i64 t0, .int .i64 t1, .int .i64 hs, .int .i64 by_, .int .i64 hzn, .int .i64 ey, .int .i64 sh, .int .i64 tp, .int .i64 pr] 28 (0, 0)), .inl (.cells #[.int .i64 ix, .slice ea en ec] 24 (0, 0))]) (lay w [.inr d0, .inl (.cells #[.int .i64 x0, .int .i64 x1, .int .i64 y0, .int .i64 y1, .int .i64 z0, .int .i64 z1] 33 (0, 0)), .inl (.cells #[.int .i64 g0, .int .i64 g1, .int .i64 c0, .int .i64 c1, .int .i64 m0, .int .i64 m1, .int .i64 p0, .int .i64 p1] 31 (0, 0)), .inl (.cells #[.string s, .int .i64 lm, .int .i64 t0, .int .i64 t1, .int .i64 hs, .int .i64 by_, .int .i64 hzn, .int .i64 ey, .int .i64 sh, .int .i64 tp, .int .i64 pr] 28 (0, 0)), .inl (.cells #[.int .i64 ix, .slice ea en ec] 24 (0, 0))]).heap.size _ [(qa0, qa1), (qo0, qo1), (qr0, qr1), (qd0, qd1)] _ 29 _ _ _ v0 [] (lay_belowG (A := [.inl _, .inl _, .inr dW])) (Nat.le_refl _) (lay_belowG (A := [.inl _, .inl _, .inr dW])).size (by rw [← HNil.out]; exact OwG.nil _ _ _) (lay_get w _ 0 _ rfl) rfl rfl rfl rfl (by simp) (by simp) (fun y hy => by simp only [List.mem_cons, List.not_mem_nil, or_false] at hy; rcases hy with rfl | rfl | rfl | rfl; exact HK.out.1; exact HK.out.2.1; exact HK.out.2.2.1; exact HK.out.2.2.2) ?_; intro v' dA hv' hg; rw [lay_bw] at hv' hg ⊢)
  obtain ⟨vadA, vcdA, rfl⟩ := hv'.form
  rw [show ([] ++ [(qa0, qa1), (qo0, qo1), (qr0, qr1), (qd0, qd1)] : List (Int × Int)).length = 4 from rfl] at hv' ⊢
  have HVA := Lib.hid hv'
  clear hv' hg
  by_cases ht : triB x0 x1 y0 y1 z0 z1 = true
  ·obtain ⟨H0, H1, Z0, Z1, hz1, hz2, hsol⟩ := HS.out ht
   have HZ := Lib.hid (And.intro hz1 hz2)
   clear hz1 hz2
   refine (hsol _).mono ?_
   rintro e w' ⟨rfl, dS, rfl⟩
   rw [lay_bw]
   clear hsol ht
   go_wp2_with (at_builtin; refine push_litK aOk rfl _ _ rfl (lay w [.inr d0, .inl (.cells #[.int .i64 x0, .int .i64 x1, .int .i64 y0, .int .i64 y1, .int .i64 z0, .int .i64 z1] 33 (0, 0)), .inl (.cells #[.int .i64 g0, .int .i64 g1, .int .i64 c0, .int .i64 c1, .int .i64 m0, .int .i64 m1, .int .i64 p0, .int .i64 p1] 31 (0, 0)), .inl (.cells #[.string s, .int .i64 lm, .int .i64 t0, .int .i64 t1, .int .i64 hs, .int .i64 by_, .int .i64 hzn, .int .i64 ey, .int .i64 sh, .int .i64 tp, .int .i64 pr] 28 (0, 0)), .inl (.cells #[.int .i64 ix, .slice ea en ec] 24 (0, 0))]) (lay w [.inr d0, .inl (.cells #[.int .i64 x0, .int .i64 x1, .int .i64 y0, .int .i64 y1, .int .i64 z0, .int .i64 z1] 33 (0, 0)), .inl (.cells #[.int .i64 g0, .int .i64 g1, .int .i64 c0, .int .i64 c1, .int .i64 m0, .int .i64 m1, .int .i64 p0, .int .i64 p1] 31 (0, 0)), .inl (.cells #[.string s, .int .i64 lm, .int .i64 t0, .int .i64 t1, .int .i64 hs, .int .i64 by_, .int .i64 hzn, .int .i64 ey, .int .i64 sh, .int .i64 tp, .int .i64 pr] 28 (0, 0)), .inl (.cells #[.int .i64 ix, .slice ea en ec] 24 (0, 0))]).heap.size _ [(H0, H1), (Z0, Z1)] _ 29 _ _ _ (.slice vadA 4 vcdA) ([] ++ [(qa0, qa1), (qo0, qo1), (qr0, qr1), (qd0, qd1)]) (lay_belowG (A := [.inl _, .inl _, .inr dS, .inr dA])) (Nat.le_refl _) (lay_belowG (A := [.inl _, .inl _, .inr dS, .inr dA])).size (HVA.out.ext (lay_belowG (A := [.inl _, .inl _, .inr dS]) (B := .inr dA :: [.inr d0, .inl (.cells #[.int .i64 x0, .int .i64 x1, .int .i64 y0, .int .i64 y1, .int .i64 z0, .int .i64 z1] 33 (0, 0)), .inl (.cells #[.int .i64 g0, .int .i64 g1, .int .i64 c0, .int .i64 c1, .int .i64 m0, .int .i64 m1, .int .i64 p0, .int .i64 p1] 31 (0, 0)), .inl (.cells #[.string s, .int .i64 lm, .int .i64 t0, .int .i64 t1, .int .i64 hs, .int .i64 by_, .int .i64 hzn, .int .i64 ey, .int .i64 sh, .int .i64 tp, .int .i64 pr] 28 (0, 0)), .inl (.cells #[.int .i64 ix, .slice ea en ec] 24 (0, 0))]))) (lay_get w _ 0 _ rfl) rfl rfl rfl rfl (by simp) (by simp) (fun y hy => by simp only [List.mem_cons, List.not_mem_nil, or_false] at hy; rcases hy with rfl | rfl; exact HZ.out.1; exact HZ.out.2) ?_; intro v' dB hv' hg; rw [lay_bw] at hv' hg ⊢)
   obtain ⟨vadB, vcdB, rfl⟩ := hv'.form
   rw [show ([] ++ [(qa0, qa1), (qo0, qo1), (qr0, qr1), (qd0, qd1)] ++ [(H0, H1), (Z0, Z1)] : List (Int × Int)).length = 6 from rfl] at hv' ⊢
   have HVB := Lib.hid hv'
   clear hv' hg
   by_cases hv2 : validB y0 y1 = true ∧ validB z0 z1 = true
   ·obtain ⟨e0, e1, f0, f1, j0, j1, he, hf, hj, hof⟩ := vec_Of y0 y1 z0 z1 hv2.1 hv2.2
    have HPl := Lib.hid (fun W => vec_Place e0 e1 f0 f1 j0 j1 he hf hj W)
    refine (hof _).mono ?_
    rintro e w' ⟨rfl, dO, rfl⟩
    rw [lay_bw]
    clear hof he hf hj hv2
    go_wp2_with fail
    refine (HPl.out _).mono ?_
    rintro e w' ⟨⟨la0, la1, lo0, lo1, kk, hkk, -, rfl⟩, dP, rfl⟩
    rw [lay_bw]
    by_cases hkk0 : kk = 0
    ·subst hkk0
     obtain ⟨hpw, hpd⟩ := hkk rfl
     have HQ := Lib.hid (plc_PrA hpw hpd)
     have HPP := Lib.hid (And.intro hpw hpd)
     clear hkk hpw hpd
     go_wp2_with (at_builtin; refine push_litK aOk rfl _ _ rfl (lay w [.inr d0, .inl (.cells #[.int .i64 x0, .int .i64 x1, .int .i64 y0, .int .i64 y1, .int .i64 z0, .int .i64 z1] 33 (0, 0)), .inl (.cells #[.int .i64 g0, .int .i64 g1, .int .i64 c0, .int .i64 c1, .int .i64 m0, .int .i64 m1, .int .i64 p0, .int .i64 p1] 31 (0, 0)), .inl (.cells #[.string s, .int .i64 lm, .int .i64 t0, .int .i64 t1, .int .i64 hs, .int .i64 by_, .int .i64 hzn, .int .i64 ey, .int .i64 sh, .int .i64 tp, .int .i64 pr] 28 (0, 0)), .inl (.cells #[.int .i64 ix, .slice ea en ec] 24 (0, 0))]) (lay w [.inr d0, .inl (.cells #[.int .i64 x0, .int .i64 x1, .int .i64 y0, .int .i64 y1, .int .i64 z0, .int .i64 z1] 33 (0, 0)), .inl (.cells #[.int .i64 g0, .int .i64 g1, .int .i64 c0, .int .i64 c1, .int .i64 m0, .int .i64 m1, .int .i64 p0, .int .i64 p1] 31 (0, 0)), .inl (.cells #[.string s, .int .i64 lm, .int .i64 t0, .int .i64 t1, .int .i64 hs, .int .i64 by_, .int .i64 hzn, .int .i64 ey, .int .i64 sh, .int .i64 tp, .int .i64 pr] 28 (0, 0)), .inl (.cells #[.int .i64 ix, .slice ea en ec] 24 (0, 0))]).heap.size _ [(la0, la1), (lo0, lo1)] _ 29 _ _ _ (.slice vadB 6 vcdB) ([] ++ [(qa0, qa1), (qo0, qo1), (qr0, qr1), (qd0, qd1)] ++ [(H0, H1), (Z0, Z1)]) (lay_belowG (A := [.inl _, .inl _, .inr dP, .inl (.cells #[.int .i64 e0, .int .i64 e1, .int .i64 f0, .int .i64 f1, .int .i64 j0, .int .i64 j1] 48 (0, 0)), .inr dO, .inr dB])) (Nat.le_refl _) (lay_belowG (A := [.inl _, .inl _, .inr dP, .inl (.cells #[.int .i64 e0, .int .i64 e1, .int .i64 f0, .int .i64 f1, .int .i64 j0, .int .i64 j1] 48 (0, 0)), .inr dO, .inr dB])).size (HVB.out.ext (lay_belowG (A := [.inl _, .inl _, .inr dP, .inl (.cells #[.int .i64 e0, .int .i64 e1, .int .i64 f0, .int .i64 f1, .int .i64 j0, .int .i64 j1] 48 (0, 0)), .inr dO]) (B := .inr dB :: [.inr d0, .inl (.cells #[.int .i64 x0, .int .i64 x1, .int .i64 y0, .int .i64 y1, .int .i64 z0, .int .i64 z1] 33 (0, 0)), .inl (.cells #[.int .i64 g0, .int .i64 g1, .int .i64 c0, .int .i64 c1, .int .i64 m0, .int .i64 m1, .int .i64 p0, .int .i64 p1] 31 (0, 0)), .inl (.cells #[.string s, .int .i64 lm, .int .i64 t0, .int .i64 t1, .int .i64 hs, .int .i64 by_, .int .i64 hzn, .int .i64 ey, .int .i64 sh, .int .i64 tp, .int .i64 pr] 28 (0, 0)), .inl (.cells #[.int .i64 ix, .slice ea en ec] 24 (0, 0))]))) (lay_get w _ 0 _ rfl) rfl rfl rfl rfl (by simp) (by simp) (fun y hy => by simp only [List.mem_cons, List.not_mem_nil, or_false] at hy; rcases hy with rfl | rfl; exact HQ.out.1; exact HQ.out.2) ?_; intro v' dC hv' hg; have hbx : (bw (lay w [.inr d0, .inl (.cells #[.int .i64 x0, .int .i64 x1, .int .i64 y0, .int .i64 y1, .int .i64 z0, .int .i64 z1] 33 (0, 0)), .inl (.cells #[.int .i64 g0, .int .i64 g1, .int .i64 c0, .int .i64 c1, .int .i64 m0, .int .i64 m1, .int .i64 p0, .int .i64 p1] 31 (0, 0)), .inl (.cells #[.string s, .int .i64 lm, .int .i64 t0, .int .i64 t1, .int .i64 hs, .int .i64 by_, .int .i64 hzn, .int .i64 ey, .int .i64 sh, .int .i64 tp, .int .i64 pr] 28 (0, 0)), .inl (.cells #[.int .i64 ix, .slice ea en ec] 24 (0, 0))]) dC).heap[posn w [dP.n, 1, dO.n, dB.n, d0.n, 1, 1, 1, 1]]? = some (.cells #[.int .i64 la0, .int .i64 la1, .int .i64 lo0, .int .i64 lo1] 52 (0, 0)) := (hg.kept _ (Array.getElem?_eq_some_iff.1 (lay_get w (.inl (.cells #[.int .i64 la0, .int .i64 la1, .int .i64 lo0, .int .i64 lo1] 29 (0, 0)) :: .inl (.cells #[.int .i64 la0, .int .i64 la1, .int .i64 lo0, .int .i64 lo1] 52 (0, 0)) :: .inr dP :: .inl (.cells #[.int .i64 e0, .int .i64 e1, .int .i64 f0, .int .i64 f1, .int .i64 j0, .int .i64 j1] 48 (0, 0)) :: .inr dO :: .inr dB :: [.inr d0, .inl (.cells #[.int .i64 x0, .int .i64 x1, .int .i64 y0, .int .i64 y1, .int .i64 z0, .int .i64 z1] 33 (0, 0)), .inl (.cells #[.int .i64 g0, .int .i64 g1, .int .i64 c0, .int .i64 c1, .int .i64 m0, .int .i64 m1, .int .i64 p0, .int .i64 p1] 31 (0, 0)), .inl (.cells #[.string s, .int .i64 lm, .int .i64 t0, .int .i64 t1, .int .i64 hs, .int .i64 by_, .int .i64 hzn, .int .i64 ey, .int .i64 sh, .int .i64 tp, .int .i64 pr] 28 (0, 0)), .inl (.cells #[.int .i64 ix, .slice ea en ec] 24 (0, 0))]) 1 _ rfl)).1 (own_ne (show OwG aR (lay w (.inl (.cells #[.int .i64 la0, .int .i64 la1, .int .i64 lo0, .int .i64 lo1] 29 (0, 0)) :: .inl (.cells #[.int .i64 la0, .int .i64 la1, .int .i64 lo0, .int .i64 lo1] 52 (0, 0)) :: .inr dP :: .inl (.cells #[.int .i64 e0, .int .i64 e1, .int .i64 f0, .int .i64 f1, .int .i64 j0, .int .i64 j1] 48 (0, 0)) :: .inr dO :: .inr dB :: [.inr d0, .inl (.cells #[.int .i64 x0, .int .i64 x1, .int .i64 y0, .int .i64 y1, .int .i64 z0, .int .i64 z1] 33 (0, 0)), .inl (.cells #[.int .i64 g0, .int .i64 g1, .int .i64 c0, .int .i64 c1, .int .i64 m0, .int .i64 m1, .int .i64 p0, .int .i64 p1] 31 (0, 0)), .inl (.cells #[.string s, .int .i64 lm, .int .i64 t0, .int .i64 t1, .int .i64 hs, .int .i64 by_, .int .i64 hzn, .int .i64 ey, .int .i64 sh, .int .i64 tp, .int .i64 pr] 28 (0, 0)), .inl (.cells #[.int .i64 ix, .slice ea en ec] 24 (0, 0))])) (lay w [.inr d0, .inl (.cells #[.int .i64 x0, .int .i64 x1, .int .i64 y0, .int .i64 y1, .int .i64 z0, .int .i64 z1] 33 (0, 0)), .inl (.cells #[.int .i64 g0, .int .i64 g1, .int .i64 c0, .int .i64 c1, .int .i64 m0, .int .i64 m1, .int .i64 p0, .int .i64 p1] 31 (0, 0)), .inl (.cells #[.string s, .int .i64 lm, .int .i64 t0, .int .i64 t1, .int .i64 hs, .int .i64 by_, .int .i64 hzn, .int .i64 ey, .int .i64 sh, .int .i64 tp, .int .i64 pr] 28 (0, 0)), .inl (.cells #[.int .i64 ix, .slice ea en ec] 24 (0, 0))]).heap.size (.slice vadB 6 vcdB) ([] ++ [(qa0, qa1), (qo0, qo1), (qr0, qr1), (qd0, qd1)] ++ [(H0, H1), (Z0, Z1)]) from (HVB.out.ext (lay_belowG (A := [.inl (.cells #[.int .i64 la0, .int .i64 la1, .int .i64 lo0, .int .i64 lo1] 29 (0, 0)), .inl (.cells #[.int .i64 la0, .int .i64 la1, .int .i64 lo0, .int .i64 lo1] 52 (0, 0)), .inr dP, .inl (.cells #[.int .i64 e0, .int .i64 e1, .int .i64 f0, .int .i64 f1, .int .i64 j0, .int .i64 j1] 48 (0, 0)), .inr dO]) (B := .inr dB :: [.inr d0, .inl (.cells #[.int .i64 x0, .int .i64 x1, .int .i64 y0, .int .i64 y1, .int .i64 z0, .int .i64 z1] 33 (0, 0)), .inl (.cells #[.int .i64 g0, .int .i64 g1, .int .i64 c0, .int .i64 c1, .int .i64 m0, .int .i64 m1, .int .i64 p0, .int .i64 p1] 31 (0, 0)), .inl (.cells #[.string s, .int .i64 lm, .int .i64 t0, .int .i64 t1, .int .i64 hs, .int .i64 by_, .int .i64 hzn, .int .i64 ey, .int .i64 sh, .int .i64 tp, .int .i64 pr] 28 (0, 0)), .inl (.cells #[.int .i64 ix, .slice ea en ec] 24 (0, 0))])))) (lay_get w (.inl (.cells #[.int .i64 la0, .int .i64 la1, .int .i64 lo0, .int .i64 lo1] 29 (0, 0)) :: .inl (.cells #[.int .i64 la0, .int .i64 la1, .int .i64 lo0, .int .i64 lo1] 52 (0, 0)) :: .inr dP :: .inl (.cells #[.int .i64 e0, .int .i64 e1, .int .i64 f0, .int .i64 f1, .int .i64 j0, .int .i64 j1] 48 (0, 0)) :: .inr dO :: .inr dB :: [.inr d0, .inl (.cells #[.int .i64 x0, .int .i64 x1, .int .i64 y0, .int .i64 y1, .int .i64 z0, .int .i64 z1] 33 (0, 0)), .inl (.cells #[.int .i64 g0, .int .i64 g1, .int .i64 c0, .int .i64 c1, .int .i64 m0, .int .i64 m1, .int .i64 p0, .int .i64 p1] 31 (0, 0)), .inl (.cells #[.string s, .int .i64 lm, .int .i64 t0, .int .i64 t1, .int .i64 hs, .int .i64 by_, .int .i64 hzn, .int .i64 ey, .int .i64 sh, .int .i64 tp, .int .i64 pr] 28 (0, 0)), .inl (.cells #[.int .i64 ix, .slice ea en ec] 24 (0, 0))]) 1 _ rfl) (by decide))).trans (lay_get w (.inl (.cells #[.int .i64 la0, .int .i64 la1, .int .i64 lo0, .int .i64 lo1] 29 (0, 0)) :: .inl (.cells #[.int .i64 la0, .int .i64 la1, .int .i64 lo0, .int .i64 lo1] 52 (0, 0)) :: .inr dP :: .inl (.cells #[.int .i64 e0, .int .i64 e1, .int .i64 f0, .int .i64 f1, .int .i64 j0, .int .i64 j1] 48 (0, 0)) :: .inr dO :: .inr dB :: [.inr d0, .inl (.cells #[.int .i64 x0, .int .i64 x1, .int .i64 y0, .int .i64 y1, .int .i64 z0, .int .i64 z1] 33 (0, 0)), .inl (.cells #[.int .i64 g0, .int .i64 g1, .int .i64 c0, .int .i64 c1, .int .i64 m0, .int .i64 m1, .int .i64 p0, .int .i64 p1] 31 (0, 0)), .inl (.cells #[.string s, .int .i64 lm, .int .i64 t0, .int .i64 t1, .int .i64 hs, .int .i64 by_, .int .i64 hzn, .int .i64 ey, .int .i64 sh, .int .i64 tp, .int .i64 pr] 28 (0, 0)), .inl (.cells #[.int .i64 ix, .slice ea en ec] 24 (0, 0))]) 1 _ rfl); obtain ⟨w5, hw5⟩ : ∃ w5, w5 = bw (lay w [.inr d0, .inl (.cells #[.int .i64 x0, .int .i64 x1, .int .i64 y0, .int .i64 y1, .int .i64 z0, .int .i64 z1] 33 (0, 0)), .inl (.cells #[.int .i64 g0, .int .i64 g1, .int .i64 c0, .int .i64 c1, .int .i64 m0, .int .i64 m1, .int .i64 p0, .int .i64 p1] 31 (0, 0)), .inl (.cells #[.string s, .int .i64 lm, .int .i64 t0, .int .i64 t1, .int .i64 hs, .int .i64 by_, .int .i64 hzn, .int .i64 ey, .int .i64 sh, .int .i64 tp, .int .i64 pr] 28 (0, 0)), .inl (.cells #[.int .i64 ix, .slice ea en ec] 24 (0, 0))]) dC := ⟨_, rfl⟩; rw [← hw5] at hv' hbx ⊢; have k0 : w5.cell? ⟨posn w [dP.n, 1, dO.n, dB.n, d0.n, 1, 1, 1, 1], 0, none⟩ = some (.int .i64 la0) := (by unfold World.cell?; dsimp only; rw [hbx]; rfl); have k1 : w5.cell? ⟨posn w [dP.n, 1, dO.n, dB.n, d0.n, 1, 1, 1, 1], 1, none⟩ = some (.int .i64 la1) := (by unfold World.cell?; dsimp only; rw [hbx]; rfl); have k2 : w5.cell? ⟨posn w [dP.n, 1, dO.n, dB.n, d0.n, 1, 1, 1, 1], 2, none⟩ = some (.int .i64 lo0) := (by unfold World.cell?; dsimp only; rw [hbx]; rfl); have k3 : w5.cell? ⟨posn w [dP.n, 1, dO.n, dB.n, d0.n, 1, 1, 1, 1], 3, none⟩ = some (.int .i64 lo1) := (by unfold World.cell?; dsimp only; rw [hbx]; rfl); have hpl := cell_lt k0; have HE5 : Hid (∃ d, w5 = bw w d) := Lib.hid (by rw [hw5, lay_bw]; exact lay_ex w _); clear hg hbx hw5)
     obtain ⟨vadC, vcdC, rfl⟩ := hv'.form
     rw [show ([] ++ [(qa0, qa1), (qo0, qo1), (qr0, qr1), (qd0, qd1)] ++ [(H0, H1), (Z0, Z1)] ++ [(la0, la1), (lo0, lo1)] : List (Int × Int)).length = 8 from rfl] at hv' ⊢
     have HV5 := Lib.hid hv'
     clear hv'
     have HT6 : Hid (TpW w5) := Lib.hid (by obtain ⟨d, hd⟩ := HE5.out; rw [hd]; exact HT.out.bw d)
     rw [show w5 = lay w5 [] from rfl]
     go_wp2_with fail
     refine (tp_plcPrint la0 la1 lo0 lo1 HPP.out.1 HPP.out.2 _ (HT6.out.lay _)).mono ?_
     rintro e w' ⟨rfl, dX, rfl⟩
     rw [lay_bw]
     go_wp2_with fail
     refine (tp_cutP la0 la1 lo0 lo1 HQ.out.1 HQ.out.2 _ (HT6.out.lay _)).mono ?_
     rintro e w' ⟨rfl, dY, rfl⟩
     rw [lay_bw]
     go_wp2_with fail
     refine (tp_recPrinted la0 la1 HQ.out.1.1 HQ.out.1.2.1 HQ.out.1.2.2 _ (HT6.out.lay _)).mono ?_
     rintro e w' ⟨rfl, dZ, rfl⟩
     rw [lay_bw]
     go_wp2_with fail
     refine (tp_recPrinted lo0 lo1 HQ.out.2.1 HQ.out.2.2.1 HQ.out.2.2.2 _ (HT6.out.lay _)).mono ?_
     rintro e w' ⟨rfl, dV, rfl⟩
     rw [lay_bw]
     clear k0 k1 k2 k3 hpl
     have HR5 : Hid (PrR w w5 (.slice vadC 8 vcdC) 8) := Lib.hid (prR_of HV5.out (lay_extends w [.inr d0, .inl (.cells #[.int .i64 x0, .int .i64 x1, .int .i64 y0, .int .i64 y1, .int .i64 z0, .int .i64 z1] 33 (0, 0)), .inl (.cells #[.int .i64 g0, .int .i64 g1, .int .i64 c0, .int .i64 c1, .int .i64 m0, .int .i64 m1, .int .i64 p0, .int .i64 p1] 31 (0, 0)), .inl (.cells #[.string s, .int .i64 lm, .int .i64 t0, .int .i64 t1, .int .i64 hs, .int .i64 by_, .int .i64 hzn, .int .i64 ey, .int .i64 sh, .int .i64 tp, .int .i64 pr] 28 (0, 0)), .inl (.cells #[.int .i64 ix, .slice ea en ec] 24 (0, 0))]).size rfl HT.out HE5.out)
     obtain ⟨ga, ca, hge, hgl⟩ := HR5.out.form (by decide)
     cases hge
     have HT5 : Hid (TpW w5) := Lib.hid (by obtain ⟨d, hd⟩ := HE5.out; rw [hd]; exact HT.out.bw d)
     clear HV5
     go_wp2_with fail
     go_loopw [132] (fun vi wr => ∃ (i : Nat) (dd : Ext), i ≤ 8 ∧ vi = .int .i64 (i : Int) ∧ wr = lay w5 [.inr dd]) (fun vi _ => 8 - (intOf vi).toNat)
     case atStart =>
      obtain ⟨dd, hd⟩ := lay_ex w5 [.inr dV, .inr dZ, .inr dY, .inr dX]
      exact ⟨0, dd, by decide, rfl, hd⟩
     case round =>
      obtain ⟨i, dd, hi, rfl, rfl⟩ := hrel
      by_cases hlt : i < 8
      ·obtain ⟨u1, u2, q1, q2, q3⟩ := HR5.out.at_ hlt
       have HQ5 := Lib.hid q3
       have x1 : (i : Int) < 8 := by omega
       clear q3
       go_wp2_with fail
       refine (tp_Print u1 u2 HQ5.out.1 HQ5.out.2.1 HQ5.out.2.2 _ (HT5.out.lay _)).mono ?_
       rintro e w' ⟨rfl, dp, rfl⟩
       rw [lay_bw]
       go_wp2_with (go_at_call 12; refine (tp_recPrinted u1 u2 HQ5.out.1 HQ5.out.2.1 HQ5.out.2.2 _ (HT5.out.lay _)).mono ?_; rintro e w' ⟨rfl, dr, rfl⟩; rw [lay_bw])
       obtain ⟨de, hde⟩ := lay_ex w5 (.inr dr :: _)
       exact ⟨⟨i + 1, de, hlt, by simp, hde⟩, by simp only [intOf]; omega⟩
      ·obtain rfl : i = 8 := by omega
       go_wp2_with fail
       obtain ⟨e5, he5⟩ := HE5.out
       exact bodyPost_ret (v := .bool true) (by simp [results, Tryz.results3, go_sem]) rfl ⟨rfl, _, by rw [he5]; exact bw_bw _ _ _⟩
    ·have hkn : (kk == 0) = false := beq_eq_false_iff_ne.2 hkk0
     clear hkk hkk0
     go_wp2_with fail
     obtain ⟨d5, h5⟩ := lay_in w [.inl (.cells #[.int .i64 la0, .int .i64 la1, .int .i64 lo0, .int .i64 lo1] 52 (0, 0)), .inr dP, .inl (.cells #[.int .i64 e0, .int .i64 e1, .int .i64 f0, .int .i64 f1, .int .i64 j0, .int .i64 j1] 48 (0, 0)), .inr dO] (.inr dB :: [.inr d0, .inl (.cells #[.int .i64 x0, .int .i64 x1, .int .i64 y0, .int .i64 y1, .int .i64 z0, .int .i64 z1] 33 (0, 0)), .inl (.cells #[.int .i64 g0, .int .i64 g1, .int .i64 c0, .int .i64 c1, .int .i64 m0, .int .i64 m1, .int .i64 p0, .int .i64 p1] 31 (0, 0)), .inl (.cells #[.string s, .int .i64 lm, .int .i64 t0, .int .i64 t1, .int .i64 hs, .int .i64 by_, .int .i64 hzn, .int .i64 ey, .int .i64 sh, .int .i64 tp, .int .i64 pr] 28 (0, 0)), .inl (.cells #[.int .i64 ix, .slice ea en ec] 24 (0, 0))])
     obtain ⟨w5, hw5⟩ : ∃ w5, w5 = lay w (.inr dB :: [.inr d0, .inl (.cells #[.int .i64 x0, .int .i64 x1, .int .i64 y0, .int .i64 y1, .int .i64 z0, .int .i64 z1] 33 (0, 0)), .inl (.cells #[.int .i64 g0, .int .i64 g1, .int .i64 c0, .int .i64 c1, .int .i64 m0, .int .i64 m1, .int .i64 p0, .int .i64 p1] 31 (0, 0)), .inl (.cells #[.string s, .int .i64 lm, .int .i64 t0, .int .i64 t1, .int .i64 hs, .int .i64 by_, .int .i64 hzn, .int .i64 ey, .int .i64 sh, .int .i64 tp, .int .i64 pr] 28 (0, 0)), .inl (.cells #[.int .i64 ix, .slice ea en ec] 24 (0, 0))]) := ⟨_, rfl⟩
     have HV5 : Hid (OwG aR w5 (lay w [.inr d0, .inl (.cells #[.int .i64 x0, .int .i64 x1, .int .i64 y0, .int .i64 y1, .int .i64 z0, .int .i64 z1] 33 (0, 0)), .inl (.cells #[.int .i64 g0, .int .i64 g1, .int .i64 c0, .int .i64 c1, .int .i64 m0, .int .i64 m1, .int .i64 p0, .int .i64 p1] 31 (0, 0)), .inl (.cells #[.string s, .int .i64 lm, .int .i64 t0, .int .i64 t1, .int .i64 hs, .int .i64 by_, .int .i64 hzn, .int .i64 ey, .int .i64 sh, .int .i64 tp, .int .i64 pr] 28 (0, 0)), .inl (.cells #[.int .i64 ix, .slice ea en ec] 24 (0, 0))]).heap.size (.slice vadB 6 vcdB) ([] ++ [(qa0, qa1), (qo0, qo1), (qr0, qr1), (qd0, qd1)] ++ [(H0, H1), (Z0, Z1)])) := Lib.hid (by rw [hw5]; exact HVB.out)
     have HE5 : Hid (∃ d, w5 = bw w d) := Lib.hid (by rw [hw5]; exact lay_ex w _)
     rw [show lay w (.inl (.cells #[.int .i64 la0, .int .i64 la1, .int .i64 lo0, .int .i64 lo1] 52 (0, 0)) :: .inr dP :: .inl (.cells #[.int .i64 e0, .int .i64 e1, .int .i64 f0, .int .i64 f1, .int .i64 j0, .int .i64 j1] 48 (0, 0)) :: .inr dO :: .inr dB :: [.inr d0, .inl (.cells #[.int .i64 x0, .int .i64 x1, .int .i64 y0, .int .i64 y1, .int .i64 z0, .int .i64 z1] 33 (0, 0)), .inl (.cells #[.int .i64 g0, .int .i64 g1, .int .i64 c0, .int .i64 c1, .int .i64 m0, .int .i64 m1, .int .i64 p0, .int .i64 p1] 31 (0, 0)), .inl (.cells #[.string s, .int .i64 lm, .int .i64 t0, .int .i64 t1, .int .i64 hs, .int .i64 by_, .int .i64 hzn, .int .i64 ey, .int .i64 sh, .int .i64 tp, .int .i64 pr] 28 (0, 0)), .inl (.cells #[.int .i64 ix, .slice ea en ec] 24 (0, 0))]) = lay w5 [.inr d5] from by rw [hw5]; exact h5]
     clear h5 hw5
     have HR5 : Hid (PrR w w5 (.slice vadB 6 vcdB) 6) := Lib.hid (prR_of HV5.out (lay_extends w [.inr d0, .inl (.cells #[.int .i64 x0, .int .i64 x1, .int .i64 y0, .int .i64 y1, .int .i64 z0, .int .i64 z1] 33 (0, 0)), .inl (.cells #[.int .i64 g0, .int .i64 g1, .int .i64 c0, .int .i64 c1, .int .i64 m0, .int .i64 m1, .int .i64 p0, .int .i64 p1] 31 (0, 0)), .inl (.cells #[.string s, .int .i64 lm, .int .i64 t0, .int .i64 t1, .int .i64 hs, .int .i64 by_, .int .i64 hzn, .int .i64 ey, .int .i64 sh, .int .i64 tp, .int .i64 pr] 28 (0, 0)), .inl (.cells #[.int .i64 ix, .slice ea en ec] 24 (0, 0))]).size rfl HT.out HE5.out)
     obtain ⟨ga, ca, hge, hgl⟩ := HR5.out.form (by decide)
     cases hge
     have HT5 : Hid (TpW w5) := Lib.hid (by obtain ⟨d, hd⟩ := HE5.out; rw [hd]; exact HT.out.bw d)
     clear HV5
     go_wp2_with fail
     go_loopw [132] (fun vi wr => ∃ (i : Nat) (dd : Ext), i ≤ 6 ∧ vi = .int .i64 (i : Int) ∧ wr = lay w5 [.inr dd]) (fun vi _ => 6 - (intOf vi).toNat)
     case atStart =>
      obtain ⟨dd, hd⟩ := lay_ex w5 [.inr d5]
      exact ⟨0, dd, by decide, rfl, hd⟩
     case round =>
      obtain ⟨i, dd, hi, rfl, rfl⟩ := hrel
      by_cases hlt : i < 6
      ·obtain ⟨u1, u2, q1, q2, q3⟩ := HR5.out.at_ hlt
       have HQ5 := Lib.hid q3
       have x1 : (i : Int) < 6 := by omega
       clear q3
       go_wp2_with fail
       refine (tp_Print u1 u2 HQ5.out.1 HQ5.out.2.1 HQ5.out.2.2 _ (HT5.out.lay _)).mono ?_
       rintro e w' ⟨rfl, dp, rfl⟩
       rw [lay_bw]
       go_wp2_with (go_at_call 12; refine (tp_recPrinted u1 u2 HQ5.out.1 HQ5.out.2.1 HQ5.out.2.2 _ (HT5.out.lay _)).mono ?_; rintro e w' ⟨rfl, dr, rfl⟩; rw [lay_bw])
       obtain ⟨de, hde⟩ := lay_ex w5 (.inr dr :: _)
       exact ⟨⟨i + 1, de, hlt, by simp, hde⟩, by simp only [intOf]; omega⟩
      ·obtain rfl : i = 6 := by omega
       go_wp2_with fail
       obtain ⟨e5, he5⟩ := HE5.out
       exact bodyPost_ret (v := .bool true) (by simp [results, Tryz.results3, go_sem]) rfl ⟨rfl, _, by rw [he5]; exact bw_bw _ _ _⟩
   ·refine (vec_OfN y0 y1 z0 z1 hv2 _).mono ?_
    rintro e w' ⟨rfl, dO, rfl⟩
    rw [lay_bw]
    go_wp2_with fail
    obtain ⟨d5, h5⟩ := lay_in w [.inl (.cells #[.int .i64 0, .int .i64 0, .int .i64 0, .int .i64 0, .int .i64 0, .int .i64 0] 48 (0, 0)), .inr dO] (.inr dB :: [.inr d0, .inl (.cells #[.int .i64 x0, .int .i64 x1, .int .i64 y0, .int .i64 y1, .int .i64 z0, .int .i64 z1] 33 (0, 0)), .inl (.cells #[.int .i64 g0, .int .i64 g1, .int .i64 c0, .int .i64 c1, .int .i64 m0, .int .i64 m1, .int .i64 p0, .int .i64 p1] 31 (0, 0)), .inl (.cells #[.string s, .int .i64 lm, .int .i64 t0, .int .i64 t1, .int .i64 hs, .int .i64 by_, .int .i64 hzn, .int .i64 ey, .int .i64 sh, .int .i64 tp, .int .i64 pr] 28 (0, 0)), .inl (.cells #[.int .i64 ix, .slice ea en ec] 24 (0, 0))])
    obtain ⟨w5, hw5⟩ : ∃ w5, w5 = lay w (.inr dB :: [.inr d0, .inl (.cells #[.int .i64 x0, .int .i64 x1, .int .i64 y0, .int .i64 y1, .int .i64 z0, .int .i64 z1] 33 (0, 0)), .inl (.cells #[.int .i64 g0, .int .i64 g1, .int .i64 c0, .int .i64 c1, .int .i64 m0, .int .i64 m1, .int .i64 p0, .int .i64 p1] 31 (0, 0)), .inl (.cells #[.string s, .int .i64 lm, .int .i64 t0, .int .i64 t1, .int .i64 hs, .int .i64 by_, .int .i64 hzn, .int .i64 ey, .int .i64 sh, .int .i64 tp, .int .i64 pr] 28 (0, 0)), .inl (.cells #[.int .i64 ix, .slice ea en ec] 24 (0, 0))]) := ⟨_, rfl⟩
    have HV5 : Hid (OwG aR w5 (lay w [.inr d0, .inl (.cells #[.int .i64 x0, .int .i64 x1, .int .i64 y0, .int .i64 y1, .int .i64 z0, .int .i64 z1] 33 (0, 0)), .inl (.cells #[.int .i64 g0, .int .i64 g1, .int .i64 c0, .int .i64 c1, .int .i64 m0, .int .i64 m1, .int .i64 p0, .int .i64 p1] 31 (0, 0)), .inl (.cells #[.string s, .int .i64 lm, .int .i64 t0, .int .i64 t1, .int .i64 hs, .int .i64 by_, .int .i64 hzn, .int .i64 ey, .int .i64 sh, .int .i64 tp, .int .i64 pr] 28 (0, 0)), .inl (.cells #[.int .i64 ix, .slice ea en ec] 24 (0, 0))]).heap.size (.slice vadB 6 vcdB) ([] ++ [(qa0, qa1), (qo0, qo1), (qr0, qr1), (qd0, qd1)] ++ [(H0, H1), (Z0, Z1)])) := Lib.hid (by rw [hw5]; exact HVB.out)
    have HE5 : Hid (∃ d, w5 = bw w d) := Lib.hid (by rw [hw5]; exact lay_ex w _)
    rw [show lay w (.inl (.cells #[.int .i64 0, .int .i64 0, .int .i64 0, .int .i64 0, .int .i64 0, .int .i64 0] 48 (0, 0)) :: .inr dO :: .inr dB :: [.inr d0, .inl (.cells #[.int .i64 x0, .int .i64 x1, .int .i64 y0, .int .i64 y1, .int .i64 z0, .int .i64 z1] 33 (0, 0)), .inl (.cells #[.int .i64 g0, .int .i64 g1, .int .i64 c0, .int .i64 c1, .int .i64 m0, .int .i64 m1, .int .i64 p0, .int .i64 p1] 31 (0, 0)), .inl (.cells #[.string s, .int .i64 lm, .int .i64 t0, .int .i64 t1, .int .i64 hs, .int .i64 by_, .int .i64 hzn, .int .i64 ey, .int .i64 sh, .int .i64 tp, .int .i64 pr] 28 (0, 0)), .inl (.cells #[.int .i64 ix, .slice ea en ec] 24 (0, 0))]) = lay w5 [.inr d5] from by rw [hw5]; exact h5]
    clear h5 hw5
    have HR5 : Hid (PrR w w5 (.slice vadB 6 vcdB) 6) := Lib.hid (prR_of HV5.out (lay_extends w [.inr d0, .inl (.cells #[.int .i64 x0, .int .i64 x1, .int .i64 y0, .int .i64 y1, .int .i64 z0, .int .i64 z1] 33 (0, 0)), .inl (.cells #[.int .i64 g0, .int .i64 g1, .int .i64 c0, .int .i64 c1, .int .i64 m0, .int .i64 m1, .int .i64 p0, .int .i64 p1] 31 (0, 0)), .inl (.cells #[.string s, .int .i64 lm, .int .i64 t0, .int .i64 t1, .int .i64 hs, .int .i64 by_, .int .i64 hzn, .int .i64 ey, .int .i64 sh, .int .i64 tp, .int .i64 pr] 28 (0, 0)), .inl (.cells #[.int .i64 ix, .slice ea en ec] 24 (0, 0))]).size rfl HT.out HE5.out)
    obtain ⟨ga, ca, hge, hgl⟩ := HR5.out.form (by decide)
    cases hge
    have HT5 : Hid (TpW w5) := Lib.hid (by obtain ⟨d, hd⟩ := HE5.out; rw [hd]; exact HT.out.bw d)
    clear HV5
    go_wp2_with fail
    go_loopw [132] (fun vi wr => ∃ (i : Nat) (dd : Ext), i ≤ 6 ∧ vi = .int .i64 (i : Int) ∧ wr = lay w5 [.inr dd]) (fun vi _ => 6 - (intOf vi).toNat)
    case atStart =>
     obtain ⟨dd, hd⟩ := lay_ex w5 [.inr d5]
     exact ⟨0, dd, by decide, rfl, hd⟩
    case round =>
     obtain ⟨i, dd, hi, rfl, rfl⟩ := hrel
     by_cases hlt : i < 6
     ·obtain ⟨u1, u2, q1, q2, q3⟩ := HR5.out.at_ hlt
      have HQ5 := Lib.hid q3
      have x1 : (i : Int) < 6 := by omega
      clear q3
      go_wp2_with fail
      refine (tp_Print u1 u2 HQ5.out.1 HQ5.out.2.1 HQ5.out.2.2 _ (HT5.out.lay _)).mono ?_
      rintro e w' ⟨rfl, dp, rfl⟩
      rw [lay_bw]
      go_wp2_with (go_at_call 12; refine (tp_recPrinted u1 u2 HQ5.out.1 HQ5.out.2.1 HQ5.out.2.2 _ (HT5.out.lay _)).mono ?_; rintro e w' ⟨rfl, dr, rfl⟩; rw [lay_bw])
      obtain ⟨de, hde⟩ := lay_ex w5 (.inr dr :: _)
      exact ⟨⟨i + 1, de, hlt, by simp, hde⟩, by simp only [intOf]; omega⟩
     ·obtain rfl : i = 6 := by omega
      go_wp2_with fail
      obtain ⟨e5, he5⟩ := HE5.out
      exact bodyPost_ret (v := .bool true) (by simp [results, Tryz.results3, go_sem]) rfl ⟨rfl, _, by rw [he5]; exact bw_bw _ _ _⟩
  ·have ht' : triB x0 x1 y0 y1 z0 z1 = false := by simpa using ht
   refine (HSB.out ht' _).mono ?_
   rintro e w' ⟨rfl, dS, rfl⟩
   rw [lay_bw]
   clear ht
   go_wp2_with (go_at_call 7; refine (HR25.out _).mono ?_; rintro e w' ⟨rfl, dR, rfl⟩; rw [ht', lay_bw])
   by_cases hv2 : validB y0 y1 = true ∧ validB z0 z1 = true
   ·obtain ⟨e0, e1, f0, f1, j0, j1, he, hf, hj, hof⟩ := vec_Of y0 y1 z0 z1 hv2.1 hv2.2
    have HPl := Lib.hid (fun W => vec_Place e0 e1 f0 f1 j0 j1 he hf hj W)
    refine (hof _).mono ?_
    rintro e w' ⟨rfl, dO, rfl⟩
    rw [lay_bw]
    clear hof he hf hj hv2
    go_wp2_with fail
    refine (HPl.out _).mono ?_
    rintro e w' ⟨⟨la0, la1, lo0, lo1, kk, hkk, -, rfl⟩, dP, rfl⟩
    rw [lay_bw]
    by_cases hkk0 : kk = 0
    ·subst hkk0
     obtain ⟨hpw, hpd⟩ := hkk rfl
     have HQ := Lib.hid (plc_PrA hpw hpd)
     have HPP := Lib.hid (And.intro hpw hpd)
     clear hkk hpw hpd
     go_wp2_with (at_builtin; refine push_litK aOk rfl _ _ rfl (lay w [.inr d0, .inl (.cells #[.int .i64 x0, .int .i64 x1, .int .i64 y0, .int .i64 y1, .int .i64 z0, .int .i64 z1] 33 (0, 0)), .inl (.cells #[.int .i64 g0, .int .i64 g1, .int .i64 c0, .int .i64 c1, .int .i64 m0, .int .i64 m1, .int .i64 p0, .int .i64 p1] 31 (0, 0)), .inl (.cells #[.string s, .int .i64 lm, .int .i64 t0, .int .i64 t1, .int .i64 hs, .int .i64 by_, .int .i64 hzn, .int .i64 ey, .int .i64 sh, .int .i64 tp, .int .i64 pr] 28 (0, 0)), .inl (.cells #[.int .i64 ix, .slice ea en ec] 24 (0, 0))]) (lay w [.inr d0, .inl (.cells #[.int .i64 x0, .int .i64 x1, .int .i64 y0, .int .i64 y1, .int .i64 z0, .int .i64 z1] 33 (0, 0)), .inl (.cells #[.int .i64 g0, .int .i64 g1, .int .i64 c0, .int .i64 c1, .int .i64 m0, .int .i64 m1, .int .i64 p0, .int .i64 p1] 31 (0, 0)), .inl (.cells #[.string s, .int .i64 lm, .int .i64 t0, .int .i64 t1, .int .i64 hs, .int .i64 by_, .int .i64 hzn, .int .i64 ey, .int .i64 sh, .int .i64 tp, .int .i64 pr] 28 (0, 0)), .inl (.cells #[.int .i64 ix, .slice ea en ec] 24 (0, 0))]).heap.size _ [(la0, la1), (lo0, lo1)] _ 29 _ _ _ (.slice vadA 4 vcdA) ([] ++ [(qa0, qa1), (qo0, qo1), (qr0, qr1), (qd0, qd1)]) (lay_belowG (A := [.inl _, .inl _, .inr dP, .inl (.cells #[.int .i64 e0, .int .i64 e1, .int .i64 f0, .int .i64 f1, .int .i64 j0, .int .i64 j1] 48 (0, 0)), .inr dO, .inr dR, .inl (.cells #[.int .i64 0, .int .i64 0, .int .i64 0, .int .i64 0] 42 (0, 0)), .inr dS, .inr dA])) (Nat.le_refl _) (lay_belowG (A := [.inl _, .inl _, .inr dP, .inl (.cells #[.int .i64 e0, .int .i64 e1, .int .i64 f0, .int .i64 f1, .int .i64 j0, .int .i64 j1] 48 (0, 0)), .inr dO, .inr dR, .inl (.cells #[.int .i64 0, .int .i64 0, .int .i64 0, .int .i64 0] 42 (0, 0)), .inr dS, .inr dA])).size (HVA.out.ext (lay_belowG (A := [.inl _, .inl _, .inr dP, .inl (.cells #[.int .i64 e0, .int .i64 e1, .int .i64 f0, .int .i64 f1, .int .i64 j0, .int .i64 j1] 48 (0, 0)), .inr dO, .inr dR, .inl (.cells #[.int .i64 0, .int .i64 0, .int .i64 0, .int .i64 0] 42 (0, 0)), .inr dS]) (B := .inr dA :: [.inr d0, .inl (.cells #[.int .i64 x0, .int .i64 x1, .int .i64 y0, .int .i64 y1, .int .i64 z0, .int .i64 z1] 33 (0, 0)), .inl (.cells #[.int .i64 g0, .int .i64 g1, .int .i64 c0, .int .i64 c1, .int .i64 m0, .int .i64 m1, .int .i64 p0, .int .i64 p1] 31 (0, 0)), .inl (.cells #[.string s, .int .i64 lm, .int .i64 t0, .int .i64 t1, .int .i64 hs, .int .i64 by_, .int .i64 hzn, .int .i64 ey, .int .i64 sh, .int .i64 tp, .int .i64 pr] 28 (0, 0)), .inl (.cells #[.int .i64 ix, .slice ea en ec] 24 (0, 0))]))) (lay_get w _ 0 _ rfl) rfl rfl rfl rfl (by simp) (by simp) (fun y hy => by simp only [List.mem_cons, List.not_mem_nil, or_false] at hy; rcases hy with rfl | rfl; exact HQ.out.1; exact HQ.out.2) ?_; intro v' dC hv' hg; have hbx : (bw (lay w [.inr d0, .inl (.cells #[.int .i64 x0, .int .i64 x1, .int .i64 y0, .int .i64 y1, .int .i64 z0, .int .i64 z1] 33 (0, 0)), .inl (.cells #[.int .i64 g0, .int .i64 g1, .int .i64 c0, .int .i64 c1, .int .i64 m0, .int .i64 m1, .int .i64 p0, .int .i64 p1] 31 (0, 0)), .inl (.cells #[.string s, .int .i64 lm, .int .i64 t0, .int .i64 t1, .int .i64 hs, .int .i64 by_, .int .i64 hzn, .int .i64 ey, .int .i64 sh, .int .i64 tp, .int .i64 pr] 28 (0, 0)), .inl (.cells #[.int .i64 ix, .slice ea en ec] 24 (0, 0))]) dC).heap[posn w [dP.n, 1, dO.n, dR.n, 1, dS.n, dA.n, d0.n, 1, 1, 1, 1]]? = some (.cells #[.int .i64 la0, .int .i64 la1, .int .i64 lo0, .int .i64 lo1] 52 (0, 0)) := (hg.kept _ (Array.getElem?_eq_some_iff.1 (lay_get w (.inl (.cells #[.int .i64 la0, .int .i64 la1, .int .i64 lo0, .int .i64 lo1] 29 (0, 0)) :: .inl (.cells #[.int .i64 la0, .int .i64 la1, .int .i64 lo0, .int .i64 lo1] 52 (0, 0)) :: .inr dP :: .inl (.cells #[.int .i64 e0, .int .i64 e1, .int .i64 f0, .int .i64 f1, .int .i64 j0, .int .i64 j1] 48 (0, 0)) :: .inr dO :: .inr dR :: .inl (.cells #[.int .i64 0, .int .i64 0, .int .i64 0, .int .i64 0] 42 (0, 0)) :: .inr dS :: .inr dA :: [.inr d0, .inl (.cells #[.int .i64 x0, .int .i64 x1, .int .i64 y0, .int .i64 y1, .int .i64 z0, .int .i64 z1] 33 (0, 0)), .inl (.cells #[.int .i64 g0, .int .i64 g1, .int .i64 c0, .int .i64 c1, .int .i64 m0, .int .i64 m1, .int .i64 p0, .int .i64 p1] 31 (0, 0)), .inl (.cells #[.string s, .int .i64 lm, .int .i64 t0, .int .i64 t1, .int .i64 hs, .int .i64 by_, .int .i64 hzn, .int .i64 ey, .int .i64 sh, .int .i64 tp, .int .i64 pr] 28 (0, 0)), .inl (.cells #[.int .i64 ix, .slice ea en ec] 24 (0, 0))]) 1 _ rfl)).1 (own_ne (show OwG aR (lay w (.inl (.cells #[.int .i64 la0, .int .i64 la1, .int .i64 lo0, .int .i64 lo1] 29 (0, 0)) :: .inl (.cells #[.int .i64 la0, .int .i64 la1, .int .i64 lo0, .int .i64 lo1] 52 (0, 0)) :: .inr dP :: .inl (.cells #[.int .i64 e0, .int .i64 e1, .int .i64 f0, .int .i64 f1, .int .i64 j0, .int .i64 j1] 48 (0, 0)) :: .inr dO :: .inr dR :: .inl (.cells #[.int .i64 0, .int .i64 0, .int .i64 0, .int .i64 0] 42 (0, 0)) :: .inr dS :: .inr dA :: [.inr d0, .inl (.cells #[.int .i64 x0, .int .i64 x1, .int .i64 y0, .int .i64 y1, .int .i64 z0, .int .i64 z1] 33 (0, 0)), .inl (.cells #[.int .i64 g0, .int .i64 g1, .int .i64 c0, .int .i64 c1, .int .i64 m0, .int .i64 m1, .int .i64 p0, .int .i64 p1] 31 (0, 0)), .inl (.cells #[.string s, .int .i64 lm, .int .i64 t0, .int .i64 t1, .int .i64 hs, .int .i64 by_, .int .i64 hzn, .int .i64 ey, .int .i64 sh, .int .i64 tp, .int .i64 pr] 28 (0, 0)), .inl (.cells #[.int .i64 ix, .slice ea en ec] 24 (0, 0))])) (lay w [.inr d0, .inl (.cells #[.int .i64 x0, .int .i64 x1, .int .i64 y0, .int .i64 y1, .int .i64 z0, .int .i64 z1] 33 (0, 0)), .inl (.cells #[.int .i64 g0, .int .i64 g1, .int .i64 c0, .int .i64 c1, .int .i64 m0, .int .i64 m1, .int .i64 p0, .int .i64 p1] 31 (0, 0)), .inl (.cells #[.string s, .int .i64 lm, .int .i64 t0, .int .i64 t1, .int .i64 hs, .int .i64 by_, .int .i64 hzn, .int .i64 ey, .int .i64 sh, .int .i64 tp, .int .i64 pr] 28 (0, 0)), .inl (.cells #[.int .i64 ix, .slice ea en ec] 24 (0, 0))]).heap.size (.slice vadA 4 vcdA) ([] ++ [(qa0, qa1), (qo0, qo1), (qr0, qr1), (qd0, qd1)]) from (HVA.out.ext (lay_belowG (A := [.inl (.cells #[.int .i64 la0, .int .i64 la1, .int .i64 lo0, .int .i64 lo1] 29 (0, 0)), .inl (.cells #[.int .i64 la0, .int .i64 la1, .int .i64 lo0, .int .i64 lo1] 52 (0, 0)), .inr dP, .inl (.cells #[.int .i64 e0, .int .i64 e1, .int .i64 f0, .int .i64 f1, .int .i64 j0, .int .i64 j1] 48 (0, 0)), .inr dO, .inr dR, .inl (.cells #[.int .i64 0, .int .i64 0, .int .i64 0, .int .i64 0] 42 (0, 0)), .inr dS]) (B := .inr dA :: [.inr d0, .inl (.cells #[.int .i64 x0, .int .i64 x1, .int .i64 y0, .int .i64 y1, .int .i64 z0, .int .i64 z1] 33 (0, 0)), .inl (.cells #[.int .i64 g0, .int .i64 g1, .int .i64 c0, .int .i64 c1, .int .i64 m0, .int .i64 m1, .int .i64 p0, .int .i64 p1] 31 (0, 0)), .inl (.cells #[.string s, .int .i64 lm, .int .i64 t0, .int .i64 t1, .int .i64 hs, .int .i64 by_, .int .i64 hzn, .int .i64 ey, .int .i64 sh, .int .i64 tp, .int .i64 pr] 28 (0, 0)), .inl (.cells #[.int .i64 ix, .slice ea en ec] 24 (0, 0))])))) (lay_get w (.inl (.cells #[.int .i64 la0, .int .i64 la1, .int .i64 lo0, .int .i64 lo1] 29 (0, 0)) :: .inl (.cells #[.int .i64 la0, .int .i64 la1, .int .i64 lo0, .int .i64 lo1] 52 (0, 0)) :: .inr dP :: .inl (.cells #[.int .i64 e0, .int .i64 e1, .int .i64 f0, .int .i64 f1, .int .i64 j0, .int .i64 j1] 48 (0, 0)) :: .inr dO :: .inr dR :: .inl (.cells #[.int .i64 0, .int .i64 0, .int .i64 0, .int .i64 0] 42 (0, 0)) :: .inr dS :: .inr dA :: [.inr d0, .inl (.cells #[.int .i64 x0, .int .i64 x1, .int .i64 y0, .int .i64 y1, .int .i64 z0, .int .i64 z1] 33 (0, 0)), .inl (.cells #[.int .i64 g0, .int .i64 g1, .int .i64 c0, .int .i64 c1, .int .i64 m0, .int .i64 m1, .int .i64 p0, .int .i64 p1] 31 (0, 0)), .inl (.cells #[.string s, .int .i64 lm, .int .i64 t0, .int .i64 t1, .int .i64 hs, .int .i64 by_, .int .i64 hzn, .int .i64 ey, .int .i64 sh, .int .i64 tp, .int .i64 pr] 28 (0, 0)), .inl (.cells #[.int .i64 ix, .slice ea en ec] 24 (0, 0))]) 1 _ rfl) (by decide))).trans (lay_get w (.inl (.cells #[.int .i64 la0, .int .i64 la1, .int .i64 lo0, .int .i64 lo1] 29 (0, 0)) :: .inl (.cells #[.int .i64 la0, .int .i64 la1, .int .i64 lo0, .int .i64 lo1] 52 (0, 0)) :: .inr dP :: .inl (.cells #[.int .i64 e0, .int .i64 e1, .int .i64 f0, .int .i64 f1, .int .i64 j0, .int .i64 j1] 48 (0, 0)) :: .inr dO :: .inr dR :: .inl (.cells #[.int .i64 0, .int .i64 0, .int .i64 0, .int .i64 0] 42 (0, 0)) :: .inr dS :: .inr dA :: [.inr d0, .inl (.cells #[.int .i64 x0, .int .i64 x1, .int .i64 y0, .int .i64 y1, .int .i64 z0, .int .i64 z1] 33 (0, 0)), .inl (.cells #[.int .i64 g0, .int .i64 g1, .int .i64 c0, .int .i64 c1, .int .i64 m0, .int .i64 m1, .int .i64 p0, .int .i64 p1] 31 (0, 0)), .inl (.cells #[.string s, .int .i64 lm, .int .i64 t0, .int .i64 t1, .int .i64 hs, .int .i64 by_, .int .i64 hzn, .int .i64 ey, .int .i64 sh, .int .i64 tp, .int .i64 pr] 28 (0, 0)), .inl (.cells #[.int .i64 ix, .slice ea en ec] 24 (0, 0))]) 1 _ rfl); obtain ⟨w5, hw5⟩ : ∃ w5, w5 = bw (lay w [.inr d0, .inl (.cells #[.int .i64 x0, .int .i64 x1, .int .i64 y0, .int .i64 y1, .int .i64 z0, .int .i64 z1] 33 (0, 0)), .inl (.cells #[.int .i64 g0, .int .i64 g1, .int .i64 c0, .int .i64 c1, .int .i64 m0, .int .i64 m1, .int .i64 p0, .int .i64 p1] 31 (0, 0)), .inl (.cells #[.string s, .int .i64 lm, .int .i64 t0, .int .i64 t1, .int .i64 hs, .int .i64 by_, .int .i64 hzn, .int .i64 ey, .int .i64 sh, .int .i64 tp, .int .i64 pr] 28 (0, 0)), .inl (.cells #[.int .i64 ix, .slice ea en ec] 24 (0, 0))]) dC := ⟨_, rfl⟩; rw [← hw5] at hv' hbx ⊢; have k0 : w5.cell? ⟨posn w [dP.n, 1, dO.n, dR.n, 1, dS.n, dA.n, d0.n, 1, 1, 1, 1], 0, none⟩ = some (.int .i64 la0) := (by unfold World.cell?; dsimp only; rw [hbx]; rfl); have k1 : w5.cell? ⟨posn w [dP.n, 1, dO.n, dR.n, 1, dS.n, dA.n, d0.n, 1, 1, 1, 1], 1, none⟩ = some (.int .i64 la1) := (by unfold World.cell?; dsimp only; rw [hbx]; rfl); have k2 : w5.cell? ⟨posn w [dP.n, 1, dO.n, dR.n, 1, dS.n, dA.n, d0.n, 1, 1, 1, 1], 2, none⟩ = some (.int .i64 lo0) := (by unfold World.cell?; dsimp only; rw [hbx]; rfl); have k3 : w5.cell? ⟨posn w [dP.n, 1, dO.n, dR.n, 1, dS.n, dA.n, d0.n, 1, 1, 1, 1], 3, none⟩ = some (.int .i64 lo1) := (by unfold World.cell?; dsimp only; rw [hbx]; rfl); have hpl := cell_lt k0; have HE5 : Hid (∃ d, w5 = bw w d) := Lib.hid (by rw [hw5, lay_bw]; exact lay_ex w _); clear hg hbx hw5)
     obtain ⟨vadC, vcdC, rfl⟩ := hv'.form
     rw [show ([] ++ [(qa0, qa1), (qo0, qo1), (qr0, qr1), (qd0, qd1)] ++ [(la0, la1), (lo0, lo1)] : List (Int × Int)).length = 6 from rfl] at hv' ⊢
     have HV5 := Lib.hid hv'
     clear hv'
     have HT6 : Hid (TpW w5) := Lib.hid (by obtain ⟨d, hd⟩ := HE5.out; rw [hd]; exact HT.out.bw d)
     rw [show w5 = lay w5 [] from rfl]
     go_wp2_with fail
     refine (tp_plcPrint la0 la1 lo0 lo1 HPP.out.1 HPP.out.2 _ (HT6.out.lay _)).mono ?_
     rintro e w' ⟨rfl, dX, rfl⟩
     rw [lay_bw]
     go_wp2_with fail
     refine (tp_cutP la0 la1 lo0 lo1 HQ.out.1 HQ.out.2 _ (HT6.out.lay _)).mono ?_
     rintro e w' ⟨rfl, dY, rfl⟩
     rw [lay_bw]
     go_wp2_with fail
     refine (tp_recPrinted la0 la1 HQ.out.1.1 HQ.out.1.2.1 HQ.out.1.2.2 _ (HT6.out.lay _)).mono ?_
     rintro e w' ⟨rfl, dZ, rfl⟩
     rw [lay_bw]
     go_wp2_with fail
     refine (tp_recPrinted lo0 lo1 HQ.out.2.1 HQ.out.2.2.1 HQ.out.2.2.2 _ (HT6.out.lay _)).mono ?_
     rintro e w' ⟨rfl, dV, rfl⟩
     rw [lay_bw]
     clear k0 k1 k2 k3 hpl
     have HR5 : Hid (PrR w w5 (.slice vadC 6 vcdC) 6) := Lib.hid (prR_of HV5.out (lay_extends w [.inr d0, .inl (.cells #[.int .i64 x0, .int .i64 x1, .int .i64 y0, .int .i64 y1, .int .i64 z0, .int .i64 z1] 33 (0, 0)), .inl (.cells #[.int .i64 g0, .int .i64 g1, .int .i64 c0, .int .i64 c1, .int .i64 m0, .int .i64 m1, .int .i64 p0, .int .i64 p1] 31 (0, 0)), .inl (.cells #[.string s, .int .i64 lm, .int .i64 t0, .int .i64 t1, .int .i64 hs, .int .i64 by_, .int .i64 hzn, .int .i64 ey, .int .i64 sh, .int .i64 tp, .int .i64 pr] 28 (0, 0)), .inl (.cells #[.int .i64 ix, .slice ea en ec] 24 (0, 0))]).size rfl HT.out HE5.out)
     obtain ⟨ga, ca, hge, hgl⟩ := HR5.out.form (by decide)
     cases hge
     have HT5 : Hid (TpW w5) := Lib.hid (by obtain ⟨d, hd⟩ := HE5.out; rw [hd]; exact HT.out.bw d)
     clear HV5
     go_wp2_with fail
     go_loopw [132] (fun vi wr => ∃ (i : Nat) (dd : Ext), i ≤ 6 ∧ vi = .int .i64 (i : Int) ∧ wr = lay w5 [.inr dd]) (fun vi _ => 6 - (intOf vi).toNat)
     case atStart =>
      obtain ⟨dd, hd⟩ := lay_ex w5 [.inr dV, .inr dZ, .inr dY, .inr dX]
      exact ⟨0, dd, by decide, rfl, hd⟩
     case round =>
      obtain ⟨i, dd, hi, rfl, rfl⟩ := hrel
      by_cases hlt : i < 6
      ·obtain ⟨u1, u2, q1, q2, q3⟩ := HR5.out.at_ hlt
       have HQ5 := Lib.hid q3
       have x1 : (i : Int) < 6 := by omega
       clear q3
       go_wp2_with fail
       refine (tp_Print u1 u2 HQ5.out.1 HQ5.out.2.1 HQ5.out.2.2 _ (HT5.out.lay _)).mono ?_
       rintro e w' ⟨rfl, dp, rfl⟩
       rw [lay_bw]
       go_wp2_with (go_at_call 12; refine (tp_recPrinted u1 u2 HQ5.out.1 HQ5.out.2.1 HQ5.out.2.2 _ (HT5.out.lay _)).mono ?_; rintro e w' ⟨rfl, dr, rfl⟩; rw [lay_bw])
       obtain ⟨de, hde⟩ := lay_ex w5 (.inr dr :: _)
       exact ⟨⟨i + 1, de, hlt, by simp, hde⟩, by simp only [intOf]; omega⟩
      ·obtain rfl : i = 6 := by omega
       go_wp2_with fail
       obtain ⟨e5, he5⟩ := HE5.out
       exact bodyPost_ret (v := .bool true) (by simp [results, Tryz.results3, go_sem]) rfl ⟨rfl, _, by rw [he5]; exact bw_bw _ _ _⟩
    ·have hkn : (kk == 0) = false := beq_eq_false_iff_ne.2 hkk0
     clear hkk hkk0
     go_wp2_with fail
     obtain ⟨d5, h5⟩ := lay_in w [.inl (.cells #[.int .i64 la0, .int .i64 la1, .int .i64 lo0, .int .i64 lo1] 52 (0, 0)), .inr dP, .inl (.cells #[.int .i64 e0, .int .i64 e1, .int .i64 f0, .int .i64 f1, .int .i64 j0, .int .i64 j1] 48 (0, 0)), .inr dO, .inr dR, .inl (.cells #[.int .i64 0, .int .i64 0, .int .i64 0, .int .i64 0] 42 (0, 0)), .inr dS] (.inr dA :: [.inr d0, .inl (.cells #[.int .i64 x0, .int .i64 x1, .int .i64 y0, .int .i64 y1, .int .i64 z0, .int .i64 z1] 33 (0, 0)), .inl (.cells #[.int .i64 g0, .int .i64 g1, .int .i64 c0, .int .i64 c1, .int .i64 m0, .int .i64 m1, .int .i64 p0, .int .i64 p1] 31 (0, 0)), .inl (.cells #[.string s, .int .i64 lm, .int .i64 t0, .int .i64 t1, .int .i64 hs, .int .i64 by_, .int .i64 hzn, .int .i64 ey, .int .i64 sh, .int .i64 tp, .int .i64 pr] 28 (0, 0)), .inl (.cells #[.int .i64 ix, .slice ea en ec] 24 (0, 0))])
     obtain ⟨w5, hw5⟩ : ∃ w5, w5 = lay w (.inr dA :: [.inr d0, .inl (.cells #[.int .i64 x0, .int .i64 x1, .int .i64 y0, .int .i64 y1, .int .i64 z0, .int .i64 z1] 33 (0, 0)), .inl (.cells #[.int .i64 g0, .int .i64 g1, .int .i64 c0, .int .i64 c1, .int .i64 m0, .int .i64 m1, .int .i64 p0, .int .i64 p1] 31 (0, 0)), .inl (.cells #[.string s, .int .i64 lm, .int .i64 t0, .int .i64 t1, .int .i64 hs, .int .i64 by_, .int .i64 hzn, .int .i64 ey, .int .i64 sh, .int .i64 tp, .int .i64 pr] 28 (0, 0)), .inl (.cells #[.int .i64 ix, .slice ea en ec] 24 (0, 0))]) := ⟨_, rfl⟩
     have HV5 : Hid (OwG aR w5 (lay w [.inr d0, .inl (.cells #[.int .i64 x0, .int .i64 x1, .int .i64 y0, .int .i64 y1, .int .i64 z0, .int .i64 z1] 33 (0, 0)), .inl (.cells #[.int .i64 g0, .int .i64 g1, .int .i64 c0, .int .i64 c1, .int .i64 m0, .int .i64 m1, .int .i64 p0, .int .i64 p1] 31 (0, 0)), .inl (.cells #[.string s, .int .i64 lm, .int .i64 t0, .int .i64 t1, .int .i64 hs, .int .i64 by_, .int .i64 hzn, .int .i64 ey, .int .i64 sh, .int .i64 tp, .int .i64 pr] 28 (0, 0)), .inl (.cells #[.int .i64 ix, .slice ea en ec] 24 (0, 0))]).heap.size (.slice vadA 4 vcdA) ([] ++ [(qa0, qa1), (qo0, qo1), (qr0, qr1), (qd0, qd1)])) := Lib.hid (by rw [hw5]; exact HVA.out)
     have HE5 : Hid (∃ d, w5 = bw w d) := Lib.hid (by rw [hw5]; exact lay_ex w _)
     rw [show lay w (.inl (.cells #[.int .i64 la0, .int .i64 la1, .int .i64 lo0, .int .i64 lo1] 52 (0, 0)) :: .inr dP :: .inl (.cells #[.int .i64 e0, .int .i64 e1, .int .i64 f0, .int .i64 f1, .int .i64 j0, .int .i64 j1] 48 (0, 0)) :: .inr dO :: .inr dR :: .inl (.cells #[.int .i64 0, .int .i64 0, .int .i64 0, .int .i64 0] 42 (0, 0)) :: .inr dS :: .inr dA :: [.inr d0, .inl (.cells #[.int .i64 x0, .int .i64 x1, .int .i64 y0, .int .i64 y1, .int .i64 z0, .int .i64 z1] 33 (0, 0)), .inl (.cells #[.int .i64 g0, .int .i64 g1, .int .i64 c0, .int .i64 c1, .int .i64 m0, .int .i64 m1, .int .i64 p0, .int .i64 p1] 31 (0, 0)), .inl (.cells #[.string s, .int .i64 lm, .int .i64 t0, .int .i64 t1, .int .i64 hs, .int .i64 by_, .int .i64 hzn, .int .i64 ey, .int .i64 sh, .int .i64 tp, .int .i64 pr] 28 (0, 0)), .inl (.cells #[.int .i64 ix, .slice ea en ec] 24 (0, 0))]) = lay w5 [.inr d5] from by rw [hw5]; exact h5]
     clear h5 hw5
     have HR5 : Hid (PrR w w5 (.slice vadA 4 vcdA) 4) := Lib.hid (prR_of HV5.out (lay_extends w [.inr d0, .inl (.cells #[.int .i64 x0, .int .i64 x1, .int .i64 y0, .int .i64 y1, .int .i64 z0, .int .i64 z1] 33 (0, 0)), .inl (.cells #[.int .i64 g0, .int .i64 g1, .int .i64 c0, .int .i64 c1, .int .i64 m0, .int .i64 m1, .int .i64 p0, .int .i64 p1] 31 (0, 0)), .inl (.cells #[.string s, .int .i64 lm, .int .i64 t0, .int .i64 t1, .int .i64 hs, .int .i64 by_, .int .i64 hzn, .int .i64 ey, .int .i64 sh, .int .i64 tp, .int .i64 pr] 28 (0, 0)), .inl (.cells #[.int .i64 ix, .slice ea en ec] 24 (0, 0))]).size rfl HT.out HE5.out)
     obtain ⟨ga, ca, hge, hgl⟩ := HR5.out.form (by decide)
     cases hge
     have HT5 : Hid (TpW w5) := Lib.hid (by obtain ⟨d, hd⟩ := HE5.out; rw [hd]; exact HT.out.bw d)
     clear HV5
     go_wp2_with fail
     go_loopw [132] (fun vi wr => ∃ (i : Nat) (dd : Ext), i ≤ 4 ∧ vi = .int .i64 (i : Int) ∧ wr = lay w5 [.inr dd]) (fun vi _ => 4 - (intOf vi).toNat)
     case atStart =>
      obtain ⟨dd, hd⟩ := lay_ex w5 [.inr d5]
      exact ⟨0, dd, by decide, rfl, hd⟩
     case round =>
      obtain ⟨i, dd, hi, rfl, rfl⟩ := hrel
      by_cases hlt : i < 4
      ·obtain ⟨u1, u2, q1, q2, q3⟩ := HR5.out.at_ hlt
       have HQ5 := Lib.hid q3
       have x1 : (i : Int) < 4 := by omega
       clear q3
       go_wp2_with fail
       refine (tp_Print u1 u2 HQ5.out.1 HQ5.out.2.1 HQ5.out.2.2 _ (HT5.out.lay _)).mono ?_
       rintro e w' ⟨rfl, dp, rfl⟩
       rw [lay_bw]
       go_wp2_with (go_at_call 12; refine (tp_recPrinted u1 u2 HQ5.out.1 HQ5.out.2.1 HQ5.out.2.2 _ (HT5.out.lay _)).mono ?_; rintro e w' ⟨rfl, dr, rfl⟩; rw [lay_bw])
       obtain ⟨de, hde⟩ := lay_ex w5 (.inr dr :: _)
       exact ⟨⟨i + 1, de, hlt, by simp, hde⟩, by simp only [intOf]; omega⟩
      ·obtain rfl : i = 4 := by omega
       go_wp2_with fail
       obtain ⟨e5, he5⟩ := HE5.out
       exact bodyPost_ret (v := .bool true) (by simp [results, Tryz.results3, go_sem]) rfl ⟨rfl, _, by rw [he5]; exact bw_bw _ _ _⟩
   ·refine (vec_OfN y0 y1 z0 z1 hv2 _).mono ?_
    rintro e w' ⟨rfl, dO, rfl⟩
    rw [lay_bw]
    go_wp2_with fail
    obtain ⟨d5, h5⟩ := lay_in w [.inl (.cells #[.int .i64 0, .int .i64 0, .int .i64 0, .int .i64 0, .int .i64 0, .int .i64 0] 48 (0, 0)), .inr dO, .inr dR, .inl (.cells #[.int .i64 0, .int .i64 0, .int .i64 0, .int .i64 0] 42 (0, 0)), .inr dS] (.inr dA :: [.inr d0, .inl (.cells #[.int .i64 x0, .int .i64 x1, .int .i64 y0, .int .i64 y1, .int .i64 z0, .int .i64 z1] 33 (0, 0)), .inl (.cells #[.int .i64 g0, .int .i64 g1, .int .i64 c0, .int .i64 c1, .int .i64 m0, .int .i64 m1, .int .i64 p0, .int .i64 p1] 31 (0, 0)), .inl (.cells #[.string s, .int .i64 lm, .int .i64 t0, .int .i64 t1, .int .i64 hs, .int .i64 by_, .int .i64 hzn, .int .i64 ey, .int .i64 sh, .int .i64 tp, .int .i64 pr] 28 (0, 0)), .inl (.cells #[.int .i64 ix, .slice ea en ec] 24 (0, 0))])
    obtain ⟨w5, hw5⟩ : ∃ w5, w5 = lay w (.inr dA :: [.inr d0, .inl (.cells #[.int .i64 x0, .int .i64 x1, .int .i64 y0, .int .i64 y1, .int .i64 z0, .int .i64 z1] 33 (0, 0)), .inl (.cells #[.int .i64 g0, .int .i64 g1, .int .i64 c0, .int .i64 c1, .int .i64 m0, .int .i64 m1, .int .i64 p0, .int .i64 p1] 31 (0, 0)), .inl (.cells #[.string s, .int .i64 lm, .int .i64 t0, .int .i64 t1, .int .i64 hs, .int .i64 by_, .int .i64 hzn, .int .i64 ey, .int .i64 sh, .int .i64 tp, .int .i64 pr] 28 (0, 0)), .inl (.cells #[.int .i64 ix, .slice ea en ec] 24 (0, 0))]) := ⟨_, rfl⟩
    have HV5 : Hid (OwG aR w5 (lay w [.inr d0, .inl (.cells #[.int .i64 x0, .int .i64 x1, .int .i64 y0, .int .i64 y1, .int .i64 z0, .int .i64 z1] 33 (0, 0)), .inl (.cells #[.int .i64 g0, .int .i64 g1, .int .i64 c0, .int .i64 c1, .int .i64 m0, .int .i64 m1, .int .i64 p0, .int .i64 p1] 31 (0, 0)), .inl (.cells #[.string s, .int .i64 lm, .int .i64 t0, .int .i64 t1, .int .i64 hs, .int .i64 by_, .int .i64 hzn, .int .i64 ey, .int .i64 sh, .int .i64 tp, .int .i64 pr] 28 (0, 0)), .inl (.cells #[.int .i64 ix, .slice ea en ec] 24 (0, 0))]).heap.size (.slice vadA 4 vcdA) ([] ++ [(qa0, qa1), (qo0, qo1), (qr0, qr1), (qd0, qd1)])) := Lib.hid (by rw [hw5]; exact HVA.out)
    have HE5 : Hid (∃ d, w5 = bw w d) := Lib.hid (by rw [hw5]; exact lay_ex w _)
    rw [show lay w (.inl (.cells #[.int .i64 0, .int .i64 0, .int .i64 0, .int .i64 0, .int .i64 0, .int .i64 0] 48 (0, 0)) :: .inr dO :: .inr dR :: .inl (.cells #[.int .i64 0, .int .i64 0, .int .i64 0, .int .i64 0] 42 (0, 0)) :: .inr dS :: .inr dA :: [.inr d0, .inl (.cells #[.int .i64 x0, .int .i64 x1, .int .i64 y0, .int .i64 y1, .int .i64 z0, .int .i64 z1] 33 (0, 0)), .inl (.cells #[.int .i64 g0, .int .i64 g1, .int .i64 c0, .int .i64 c1, .int .i64 m0, .int .i64 m1, .int .i64 p0, .int .i64 p1] 31 (0, 0)), .inl (.cells #[.string s, .int .i64 lm, .int .i64 t0, .int .i64 t1, .int .i64 hs, .int .i64 by_, .int .i64 hzn, .int .i64 ey, .int .i64 sh, .int .i64 tp, .int .i64 pr] 28 (0, 0)), .inl (.cells #[.int .i64 ix, .slice ea en ec] 24 (0, 0))]) = lay w5 [.inr d5] from by rw [hw5]; exact h5]
    clear h5 hw5
    have HR5 : Hid (PrR w w5 (.slice vadA 4 vcdA) 4) := Lib.hid (prR_of HV5.out (lay_extends w [.inr d0, .inl (.cells #[.int .i64 x0, .int .i64 x1, .int .i64 y0, .int .i64 y1, .int .i64 z0, .int .i64 z1] 33 (0, 0)), .inl (.cells #[.int .i64 g0, .int .i64 g1, .int .i64 c0, .int .i64 c1, .int .i64 m0, .int .i64 m1, .int .i64 p0, .int .i64 p1] 31 (0, 0)), .inl (.cells #[.string s, .int .i64 lm, .int .i64 t0, .int .i64 t1, .int .i64 hs, .int .i64 by_, .int .i64 hzn, .int .i64 ey, .int .i64 sh, .int .i64 tp, .int .i64 pr] 28 (0, 0)), .inl (.cells #[.int .i64 ix, .slice ea en ec] 24 (0, 0))]).size rfl HT.out HE5.out)
    obtain ⟨ga, ca, hge, hgl⟩ := HR5.out.form (by decide)
    cases hge
    have HT5 : Hid (TpW w5) := Lib.hid (by obtain ⟨d, hd⟩ := HE5.out; rw [hd]; exact HT.out.bw d)
    clear HV5
    go_wp2_with fail
    go_loopw [132] (fun vi wr => ∃ (i : Nat) (dd : Ext), i ≤ 4 ∧ vi = .int .i64 (i : Int) ∧ wr = lay w5 [.inr dd]) (fun vi _ => 4 - (intOf vi).toNat)
    case atStart =>
     obtain ⟨dd, hd⟩ := lay_ex w5 [.inr d5]
     exact ⟨0, dd, by decide, rfl, hd⟩
    case round =>
     obtain ⟨i, dd, hi, rfl, rfl⟩ := hrel
     by_cases hlt : i < 4
     ·obtain ⟨u1, u2, q1, q2, q3⟩ := HR5.out.at_ hlt
      have HQ5 := Lib.hid q3
      have x1 : (i : Int) < 4 := by omega
      clear q3
      go_wp2_with fail
      refine (tp_Print u1 u2 HQ5.out.1 HQ5.out.2.1 HQ5.out.2.2 _ (HT5.out.lay _)).mono ?_
      rintro e w' ⟨rfl, dp, rfl⟩
      rw [lay_bw]
      go_wp2_with (go_at_call 12; refine (tp_recPrinted u1 u2 HQ5.out.1 HQ5.out.2.1 HQ5.out.2.2 _ (HT5.out.lay _)).mono ?_; rintro e w' ⟨rfl, dr, rfl⟩; rw [lay_bw])
      obtain ⟨de, hde⟩ := lay_ex w5 (.inr dr :: _)
      exact ⟨⟨i + 1, de, hlt, by simp, hde⟩, by simp only [intOf]; omega⟩
     ·obtain rfl : i = 4 := by omega
      go_wp2_with fail
      obtain ⟨e5, he5⟩ := HE5.out
      exact bodyPost_ret (v := .bool true) (by simp [results, Tryz.results3, go_sem]) rfl ⟨rfl, _, by rw [he5]; exact bw_bw _ _ _⟩
 ·have hkn : (k == 0) = false := beq_eq_false_iff_ne.2 hk0
  clear hk hk0
  go_wp2_with fail
  by_cases ht : triB x0 x1 y0 y1 z0 z1 = true
  ·obtain ⟨H0, H1, Z0, Z1, hz1, hz2, hsol⟩ := HS.out ht
   have HZ := Lib.hid (And.intro hz1 hz2)
   clear hz1 hz2
   refine (hsol _).mono ?_
   rintro e w' ⟨rfl, dS, rfl⟩
   rw [lay_bw]
   clear hsol ht
   generalize hv0 : Value.slice none 0 0 = v0
   have HNil := Lib.hid hv0
   clear hv0
   go_wp2_with (at_builtin; refine push_litK aOk rfl _ _ rfl (lay w [.inr d0, .inl (.cells #[.int .i64 x0, .int .i64 x1, .int .i64 y0, .int .i64 y1, .int .i64 z0, .int .i64 z1] 33 (0, 0)), .inl (.cells #[.int .i64 g0, .int .i64 g1, .int .i64 c0, .int .i64 c1, .int .i64 m0, .int .i64 m1, .int .i64 p0, .int .i64 p1] 31 (0, 0)), .inl (.cells #[.string s, .int .i64 lm, .int .i64 t0, .int .i64 t1, .int .i64 hs, .int .i64 by_, .int .i64 hzn, .int .i64 ey, .int .i64 sh, .int .i64 tp, .int .i64 pr] 28 (0, 0)), .inl (.cells #[.int .i64 ix, .slice ea en ec] 24 (0, 0))]) (lay w [.inr d0, .inl (.cells #[.int .i64 x0, .int .i64 x1, .int .i64 y0, .int .i64 y1, .int .i64 z0, .int .i64 z1] 33 (0, 0)), .inl (.cells #[.int .i64 g0, .int .i64 g1, .int .i64 c0, .int .i64 c1, .int .i64 m0, .int .i64 m1, .int .i64 p0, .int .i64 p1] 31 (0, 0)), .inl (.cells #[.string s, .int .i64 lm, .int .i64 t0, .int .i64 t1, .int .i64 hs, .int .i64 by_, .int .i64 hzn, .int .i64 ey, .int .i64 sh, .int .i64 tp, .int .i64 pr] 28 (0, 0)), .inl (.cells #[.int .i64 ix, .slice ea en ec] 24 (0, 0))]).heap.size _ [(H0, H1), (Z0, Z1)] _ 29 _ _ _ v0 [] (lay_belowG (A := [.inl _, .inl _, .inr dS, .inl (.cells #[.int .i64 qi0, .int .i64 qi1, .int .i64 qd0, .int .i64 qd1, .int .i64 qr0, .int .i64 qr1, .int .i64 qp0, .int .i64 qp1, .int .i64 qs0, .int .i64 qs1, .int .i64 qa0, .int .i64 qa1, .int .i64 qo0, .int .i64 qo1] 37 (0, 0)), .inr dW])) (Nat.le_refl _) (lay_belowG (A := [.inl _, .inl _, .inr dS, .inl (.cells #[.int .i64 qi0, .int .i64 qi1, .int .i64 qd0, .int .i64 qd1, .int .i64 qr0, .int .i64 qr1, .int .i64 qp0, .int .i64 qp1, .int .i64 qs0, .int .i64 qs1, .int .i64 qa0, .int .i64 qa1, .int .i64 qo0, .int .i64 qo1] 37 (0, 0)), .inr dW])).size (by rw [← HNil.out]; exact OwG.nil _ _ _) (lay_get w _ 0 _ rfl) rfl rfl rfl rfl (by simp) (by simp) (fun y hy => by simp only [List.mem_cons, List.not_mem_nil, or_false] at hy; rcases hy with rfl | rfl; exact HZ.out.1; exact HZ.out.2) ?_; intro v' dB hv' hg; rw [lay_bw] at hv' hg ⊢)
   obtain ⟨vadB, vcdB, rfl⟩ := hv'.form
   rw [show ([] ++ [(H0, H1), (Z0, Z1)] : List (Int × Int)).length = 2 from rfl] at hv' ⊢
   have HVB := Lib.hid hv'
   clear hv' hg
   by_cases hv2 : validB y0 y1 = true ∧ validB z0 z1 = true
   ·obtain ⟨e0, e1, f0, f1, j0, j1, he, hf, hj, hof⟩ := vec_Of y0 y1 z0 z1 hv2.1 hv2.2
    have HPl := Lib.hid (fun W => vec_Place e0 e1 f0 f1 j0 j1 he hf hj W)
    refine (hof _).mono ?_
    rintro e w' ⟨rfl, dO, rfl⟩
    rw [lay_bw]
    clear hof he hf hj hv2
    go_wp2_with fail
    refine (HPl.out _).mono ?_
    rintro e w' ⟨⟨la0, la1, lo0, lo1, kk, hkk, -, rfl⟩, dP, rfl⟩
    rw [lay_bw]
    by_cases hkk0 : kk = 0
    ·subst hkk0
     obtain ⟨hpw, hpd⟩ := hkk rfl
     have HQ := Lib.hid (plc_PrA hpw hpd)
     have HPP := Lib.hid (And.intro hpw hpd)
     clear hkk hpw hpd
     go_wp2_with (at_builtin; refine push_litK aOk rfl _ _ rfl (lay w [.inr d0, .inl (.cells #[.int .i64 x0, .int .i64 x1, .int .i64 y0, .int .i64 y1, .int .i64 z0, .int .i64 z1] 33 (0, 0)), .inl (.cells #[.int .i64 g0, .int .i64 g1, .int .i64 c0, .int .i64 c1, .int .i64 m0, .int .i64 m1, .int .i64 p0, .int .i64 p1] 31 (0, 0)), .inl (.cells #[.string s, .int .i64 lm, .int .i64 t0, .int .i64 t1, .int .i64 hs, .int .i64 by_, .int .i64 hzn, .int .i64 ey, .int .i64 sh, .int .i64 tp, .int .i64 pr] 28 (0, 0)), .inl (.cells #[.int .i64 ix, .slice ea en ec] 24 (0, 0))]) (lay w [.inr d0, .inl (.cells #[.int .i64 x0, .int .i64 x1, .int .i64 y0, .int .i64 y1, .int .i64 z0, .int .i64 z1] 33 (0, 0)), .inl (.cells #[.int .i64 g0, .int .i64 g1, .int .i64 c0, .int .i64 c1, .int .i64 m0, .int .i64 m1, .int .i64 p0, .int .i64 p1] 31 (0, 0)), .inl (.cells #[.string s, .int .i64 lm, .int .i64 t0, .int .i64 t1, .int .i64 hs, .int .i64 by_, .int .i64 hzn, .int .i64 ey, .int .i64 sh, .int .i64 tp, .int .i64 pr] 28 (0, 0)), .inl (.cells #[.int .i64 ix, .slice ea en ec] 24 (0, 0))]).heap.size _ [(la0, la1), (lo0, lo1)] _ 29 _ _ _ (.slice vadB 2 vcdB) ([] ++ [(H0, H1), (Z0, Z1)]) (lay_belowG (A := [.inl _, .inl _, .inr dP, .inl (.cells #[.int .i64 e0, .int .i64 e1, .int .i64 f0, .int .i64 f1, .int .i64 j0, .int .i64 j1] 48 (0, 0)), .inr dO, .inr dB])) (Nat.le_refl _) (lay_belowG (A := [.inl _, .inl _, .inr dP, .inl (.cells #[.int .i64 e0, .int .i64 e1, .int .i64 f0, .int .i64 f1, .int .i64 j0, .int .i64 j1] 48 (0, 0)), .inr dO, .inr dB])).size (HVB.out.ext (lay_belowG (A := [.inl _, .inl _, .inr dP, .inl (.cells #[.int .i64 e0, .int .i64 e1, .int .i64 f0, .int .i64 f1, .int .i64 j0, .int .i64 j1] 48 (0, 0)), .inr dO]) (B := .inr dB :: [.inr d0, .inl (.cells #[.int .i64 x0, .int .i64 x1, .int .i64 y0, .int .i64 y1, .int .i64 z0, .int .i64 z1] 33 (0, 0)), .inl (.cells #[.int .i64 g0, .int .i64 g1, .int .i64 c0, .int .i64 c1, .int .i64 m0, .int .i64 m1, .int .i64 p0, .int .i64 p1] 31 (0, 0)), .inl (.cells #[.string s, .int .i64 lm, .int .i64 t0, .int .i64 t1, .int .i64 hs, .int .i64 by_, .int .i64 hzn, .int .i64 ey, .int .i64 sh, .int .i64 tp, .int .i64 pr] 28 (0, 0)), .inl (.cells #[.int .i64 ix, .slice ea en ec] 24 (0, 0))]))) (lay_get w _ 0 _ rfl) rfl rfl rfl rfl (by simp) (by simp) (fun y hy => by simp only [List.mem_cons, List.not_mem_nil, or_false] at hy; rcases hy with rfl | rfl; exact HQ.out.1; exact HQ.out.2) ?_; intro v' dC hv' hg; have hbx : (bw (lay w [.inr d0, .inl (.cells #[.int .i64 x0, .int .i64 x1, .int .i64 y0, .int .i64 y1, .int .i64 z0, .int .i64 z1] 33 (0, 0)), .inl (.cells #[.int .i64 g0, .int .i64 g1, .int .i64 c0, .int .i64 c1, .int .i64 m0, .int .i64 m1, .int .i64 p0, .int .i64 p1] 31 (0, 0)), .inl (.cells #[.string s, .int .i64 lm, .int .i64 t0, .int .i64 t1, .int .i64 hs, .int .i64 by_, .int .i64 hzn, .int .i64 ey, .int .i64 sh, .int .i64 tp, .int .i64 pr] 28 (0, 0)), .inl (.cells #[.int .i64 ix, .slice ea en ec] 24 (0, 0))]) dC).heap[posn w [dP.n, 1, dO.n, dB.n, d0.n, 1, 1, 1, 1]]? = some (.cells #[.int .i64 la0, .int .i64 la1, .int .i64 lo0, .int .i64 lo1] 52 (0, 0)) := (hg.kept _ (Array.getElem?_eq_some_iff.1 (lay_get w (.inl (.cells #[.int .i64 la0, .int .i64 la1, .int .i64 lo0, .int .i64 lo1] 29 (0, 0)) :: .inl (.cells #[.int .i64 la0, .int .i64 la1, .int .i64 lo0, .int .i64 lo1] 52 (0, 0)) :: .inr dP :: .inl (.cells #[.int .i64 e0, .int .i64 e1, .int .i64 f0, .int .i64 f1, .int .i64 j0, .int .i64 j1] 48 (0, 0)) :: .inr dO :: .inr dB :: [.inr d0, .inl (.cells #[.int .i64 x0, .int .i64 x1, .int .i64 y0, .int .i64 y1, .int .i64 z0, .int .i64 z1] 33 (0, 0)), .inl (.cells #[.int .i64 g0, .int .i64 g1, .int .i64 c0, .int .i64 c1, .int .i64 m0, .int .i64 m1, .int .i64 p0, .int .i64 p1] 31 (0, 0)), .inl (.cells #[.string s, .int .i64 lm, .int .i64 t0, .int .i64 t1, .int .i64 hs, .int .i64 by_, .int .i64 hzn, .int .i64 ey, .int .i64 sh, .int .i64 tp, .int .i64 pr] 28 (0, 0)), .inl (.cells #[.int .i64 ix, .slice ea en ec] 24 (0, 0))]) 1 _ rfl)).1 (own_ne (show OwG aR (lay w (.inl (.cells #[.int .i64 la0, .int .i64 la1, .int .i64 lo0, .int .i64 lo1] 29 (0, 0)) :: .inl (.cells #[.int .i64 la0, .int .i64 la1, .int .i64 lo0, .int .i64 lo1] 52 (0, 0)) :: .inr dP :: .inl (.cells #[.int .i64 e0, .int .i64 e1, .int .i64 f0, .int .i64 f1, .int .i64 j0, .int .i64 j1] 48 (0, 0)) :: .inr dO :: .inr dB :: [.inr d0, .inl (.cells #[.int .i64 x0, .int .i64 x1, .int .i64 y0, .int .i64 y1, .int .i64 z0, .int .i64 z1] 33 (0, 0)), .inl (.cells #[.int .i64 g0, .int .i64 g1, .int .i64 c0, .int .i64 c1, .int .i64 m0, .int .i64 m1, .int .i64 p0, .int .i64 p1] 31 (0, 0)), .inl (.cells #[.string s, .int .i64 lm, .int .i64 t0, .int .i64 t1, .int .i64 hs, .int .i64 by_, .int .i64 hzn, .int .i64 ey, .int .i64 sh, .int .i64 tp, .int .i64 pr] 28 (0, 0)), .inl (.cells #[.int .i64 ix, .slice ea en ec] 24 (0, 0))])) (lay w [.inr d0, .inl (.cells #[.int .i64 x0, .int .i64 x1, .int .i64 y0, .int .i64 y1, .int .i64 z0, .int .i64 z1] 33 (0, 0)), .inl (.cells #[.int .i64 g0, .int .i64 g1, .int .i64 c0, .int .i64 c1, .int .i64 m0, .int .i64 m1, .int .i64 p0, .int .i64 p1] 31 (0, 0)), .inl (.cells #[.string s, .int .i64 lm, .int .i64 t0, .int .i64 t1, .int .i64 hs, .int .i64 by_, .int .i64 hzn, .int .i64 ey, .int .i64 sh, .int .i64 tp, .int .i64 pr] 28 (0, 0)), .inl (.cells #[.int .i64 ix, .slice ea en ec] 24 (0, 0))]).heap.size (.slice vadB 2 vcdB) ([] ++ [(H0, H1), (Z0, Z1)]) from (HVB.out.ext (lay_belowG (A := [.inl (.cells #[.int .i64 la0, .int .i64 la1, .int .i64 lo0, .int .i64 lo1] 29 (0, 0)), .inl (.cells #[.int .i64 la0, .int .i64 la1, .int .i64 lo0, .int .i64 lo1] 52 (0, 0)), .inr dP, .inl (.cells #[.int .i64 e0, .int .i64 e1, .int .i64 f0, .int .i64 f1, .int .i64 j0, .int .i64 j1] 48 (0, 0)), .inr dO]) (B := .inr dB :: [.inr d0, .inl (.cells #[.int .i64 x0, .int .i64 x1, .int .i64 y0, .int .i64 y1, .int .i64 z0, .int .i64 z1] 33 (0, 0)), .inl (.cells #[.int .i64 g0, .int .i64 g1, .int .i64 c0, .int .i64 c1, .int .i64 m0, .int .i64 m1, .int .i64 p0, .int .i64 p1] 31 (0, 0)), .inl (.cells #[.string s, .int .i64 lm, .int .i64 t0, .int .i64 t1, .int .i64 hs, .int .i64 by_, .int .i64 hzn, .int .i64 ey, .int .i64 sh, .int .i64 tp, .int .i64 pr] 28 (0, 0)), .inl (.cells #[.int .i64 ix, .slice ea en ec] 24 (0, 0))])))) (lay_get w (.inl (.cells #[.int .i64 la0, .int .i64 la1, .int .i64 lo0, .int .i64 lo1] 29 (0, 0)) :: .inl (.cells #[.int .i64 la0, .int .i64 la1, .int .i64 lo0, .int .i64 lo1] 52 (0, 0)) :: .inr dP :: .inl (.cells #[.int .i64 e0, .int .i64 e1, .int .i64 f0, .int .i64 f1, .int .i64 j0, .int .i64 j1] 48 (0, 0)) :: .inr dO :: .inr dB :: [.inr d0, .inl (.cells #[.int .i64 x0, .int .i64 x1, .int .i64 y0, .int .i64 y1, .int .i64 z0, .int .i64 z1] 33 (0, 0)), .inl (.cells #[.int .i64 g0, .int .i64 g1, .int .i64 c0, .int .i64 c1, .int .i64 m0, .int .i64 m1, .int .i64 p0, .int .i64 p1] 31 (0, 0)), .inl (.cells #[.string s, .int .i64 lm, .int .i64 t0, .int .i64 t1, .int .i64 hs, .int .i64 by_, .int .i64 hzn, .int .i64 ey, .int .i64 sh, .int .i64 tp, .int .i64 pr] 28 (0, 0)), .inl (.cells #[.int .i64 ix, .slice ea en ec] 24 (0, 0))]) 1 _ rfl) (by decide))).trans (lay_get w (.inl (.cells #[.int .i64 la0, .int .i64 la1, .int .i64 lo0, .int .i64 lo1] 29 (0, 0)) :: .inl (.cells #[.int .i64 la0, .int .i64 la1, .int .i64 lo0, .int .i64 lo1] 52 (0, 0)) :: .inr dP :: .inl (.cells #[.int .i64 e0, .int .i64 e1, .int .i64 f0, .int .i64 f1, .int .i64 j0, .int .i64 j1] 48 (0, 0)) :: .inr dO :: .inr dB :: [.inr d0, .inl (.cells #[.int .i64 x0, .int .i64 x1, .int .i64 y0, .int .i64 y1, .int .i64 z0, .int .i64 z1] 33 (0, 0)), .inl (.cells #[.int .i64 g0, .int .i64 g1, .int .i64 c0, .int .i64 c1, .int .i64 m0, .int .i64 m1, .int .i64 p0, .int .i64 p1] 31 (0, 0)), .inl (.cells #[.string s, .int .i64 lm, .int .i64 t0, .int .i64 t1, .int .i64 hs, .int .i64 by_, .int .i64 hzn, .int .i64 ey, .int .i64 sh, .int .i64 tp, .int .i64 pr] 28 (0, 0)), .inl (.cells #[.int .i64 ix, .slice ea en ec] 24 (0, 0))]) 1 _ rfl); obtain ⟨w5, hw5⟩ : ∃ w5, w5 = bw (lay w [.inr d0, .inl (.cells #[.int .i64 x0, .int .i64 x1, .int .i64 y0, .int .i64 y1, .int .i64 z0, .int .i64 z1] 33 (0, 0)), .inl (.cells #[.int .i64 g0, .int .i64 g1, .int .i64 c0, .int .i64 c1, .int .i64 m0, .int .i64 m1, .int .i64 p0, .int .i64 p1] 31 (0, 0)), .inl (.cells #[.string s, .int .i64 lm, .int .i64 t0, .int .i64 t1, .int .i64 hs, .int .i64 by_, .int .i64 hzn, .int .i64 ey, .int .i64 sh, .int .i64 tp, .int .i64 pr] 28 (0, 0)), .inl (.cells #[.int .i64 ix, .slice ea en ec] 24 (0, 0))]) dC := ⟨_, rfl⟩; rw [← hw5] at hv' hbx ⊢; have k0 : w5.cell? ⟨posn w [dP.n, 1, dO.n, dB.n, d0.n, 1, 1, 1, 1], 0, none⟩ = some (.int .i64 la0) := (by unfold World.cell?; dsimp only; rw [hbx]; rfl); have k1 : w5.cell? ⟨posn w [dP.n, 1, dO.n, dB.n, d0.n, 1, 1, 1, 1], 1, none⟩ = some (.int .i64 la1) := (by unfold World.cell?; dsimp only; rw [hbx]; rfl); have k2 : w5.cell? ⟨posn w [dP.n, 1, dO.n, dB.n, d0.n, 1, 1, 1, 1], 2, none⟩ = some (.int .i64 lo0) := (by unfold World.cell?; dsimp only; rw [hbx]; rfl); have k3 : w5.cell? ⟨posn w [dP.n, 1, dO.n, dB.n, d0.n, 1, 1, 1, 1], 3, none⟩ = some (.int .i64 lo1) := (by unfold World.cell?; dsimp only; rw [hbx]; rfl); have hpl := cell_lt k0; have HE5 : Hid (∃ d, w5 = bw w d) := Lib.hid (by rw [hw5, lay_bw]; exact lay_ex w _); clear hg hbx hw5)
     obtain ⟨vadC, vcdC, rfl⟩ := hv'.form
     rw [show ([] ++ [(H0, H1), (Z0, Z1)] ++ [(la0, la1), (lo0, lo1)] : List (Int × Int)).length = 4 from rfl] at hv' ⊢
     have HV5 := Lib.hid hv'
     clear hv'
     have HT6 : Hid (TpW w5) := Lib.hid (by obtain ⟨d, hd⟩ := HE5.out; rw [hd]; exact HT.out.bw d)
     rw [show w5 = lay w5 [] from rfl]
     go_wp2_with fail
     refine (tp_plcPrint la0 la1 lo0 lo1 HPP.out.1 HPP.out.2 _ (HT6.out.lay _)).mono ?_
     rintro e w' ⟨rfl, dX, rfl⟩
     rw [lay_bw]
     go_wp2_with fail
     refine (tp_cutP la0 la1 lo0 lo1 HQ.out.1 HQ.out.2 _ (HT6.out.lay _)).mono ?_
     rintro e w' ⟨rfl, dY, rfl⟩
     rw [lay_bw]
     go_wp2_with fail
     refine (tp_recPrinted la0 la1 HQ.out.1.1 HQ.out.1.2.1 HQ.out.1.2.2 _ (HT6.out.lay _)).mono ?_
     rintro e w' ⟨rfl, dZ, rfl⟩
     rw [lay_bw]
     go_wp2_with fail
     refine (tp_recPrinted lo0 lo1 HQ.out.2.1 HQ.out.2.2.1 HQ.out.2.2.2 _ (HT6.out.lay _)).mono ?_
     rintro e w' ⟨rfl, dV, rfl⟩
     rw [lay_bw]
     clear k0 k1 k2 k3 hpl
     have HR5 : Hid (PrR w w5 (.slice vadC 4 vcdC) 4) := Lib.hid (prR_of HV5.out (lay_extends w [.inr d0, .inl (.cells #[.int .i64 x0, .int .i64 x1, .int .i64 y0, .int .i64 y1, .int .i64 z0, .int .i64 z1] 33 (0, 0)), .inl (.cells #[.int .i64 g0, .int .i64 g1, .int .i64 c0, .int .i64 c1, .int .i64 m0, .int .i64 m1, .int .i64 p0, .int .i64 p1] 31 (0, 0)), .inl (.cells #[.string s, .int .i64 lm, .int .i64 t0, .int .i64 t1, .int .i64 hs, .int .i64 by_, .int .i64 hzn, .int .i64 ey, .int .i64 sh, .int .i64 tp, .int .i64 pr] 28 (0, 0)), .inl (.cells #[.int .i64 ix, .slice ea en ec] 24 (0, 0))]).size rfl HT.out HE5.out)
     obtain ⟨ga, ca, hge, hgl⟩ := HR5.out.form (by decide)
     cases hge
     have HT5 : Hid (TpW w5) := Lib.hid (by obtain ⟨d, hd⟩ := HE5.out; rw [hd]; exact HT.out.bw d)
     clear HV5
     go_wp2_with fail
     go_loopw [132] (fun vi wr => ∃ (i : Nat) (dd : Ext), i ≤ 4 ∧ vi = .int .i64 (i : Int) ∧ wr = lay w5 [.inr dd]) (fun vi _ => 4 - (intOf vi).toNat)
     case atStart =>
      obtain ⟨dd, hd⟩ := lay_ex w5 [.inr dV, .inr dZ, .inr dY, .inr dX]
      exact ⟨0, dd, by decide, rfl, hd⟩
     case round =>
      obtain ⟨i, dd, hi, rfl, rfl⟩ := hrel
      by_cases hlt : i < 4
      ·obtain ⟨u1, u2, q1, q2, q3⟩ := HR5.out.at_ hlt
       have HQ5 := Lib.hid q3
       have x1 : (i : Int) < 4 := by omega
       clear q3
       go_wp2_with fail
       refine (tp_Print u1 u2 HQ5.out.1 HQ5.out.2.1 HQ5.out.2.2 _ (HT5.out.lay _)).mono ?_
       rintro e w' ⟨rfl, dp, rfl⟩
       rw [lay_bw]
       go_wp2_with (go_at_call 12; refine (tp_recPrinted u1 u2 HQ5.out.1 HQ5.out.2.1 HQ5.out.2.2 _ (HT5.out.lay _)).mono ?_; rintro e w' ⟨rfl, dr, rfl⟩; rw [lay_bw])
       obtain ⟨de, hde⟩ := lay_ex w5 (.inr dr :: _)
       exact ⟨⟨i + 1, de, hlt, by simp, hde⟩, by simp only [intOf]; omega⟩
      ·obtain rfl : i = 4 := by omega
       go_wp2_with fail
       obtain ⟨e5, he5⟩ := HE5.out
       exact bodyPost_ret (v := .bool true) (by simp [results, Tryz.results3, go_sem]) rfl ⟨rfl, _, by rw [he5]; exact bw_bw _ _ _⟩
    ·have hkn : (kk == 0) = false := beq_eq_false_iff_ne.2 hkk0
     clear hkk hkk0
     go_wp2_with fail
     obtain ⟨d5, h5⟩ := lay_in w [.inl (.cells #[.int .i64 la0, .int .i64 la1, .int .i64 lo0, .int .i64 lo1] 52 (0, 0)), .inr dP, .inl (.cells #[.int .i64 e0, .int .i64 e1, .int .i64 f0, .int .i64 f1, .int .i64 j0, .int .i64 j1] 48 (0, 0)), .inr dO] (.inr dB :: [.inr d0, .inl (.cells #[.int .i64 x0, .int .i64 x1, .int .i64 y0, .int .i64 y1, .int .i64 z0, .int .i64 z1] 33 (0, 0)), .inl (.cells #[.int .i64 g0, .int .i64 g1, .int .i64 c0, .int .i64 c1, .int .i64 m0, .int .i64 m1, .int .i64 p0, .int .i64 p1] 31 (0, 0)), .inl (.cells #[.string s, .int .i64 lm, .int .i64 t0, .int .i64 t1, .int .i64 hs, .int .i64 by_, .int .i64 hzn, .int .i64 ey, .int .i64 sh, .int .i64 tp, .int .i64 pr] 28 (0, 0)), .inl (.cells #[.int .i64 ix, .slice ea en ec] 24 (0, 0))])
     obtain ⟨w5, hw5⟩ : ∃ w5, w5 = lay w (.inr dB :: [.inr d0, .inl (.cells #[.int .i64 x0, .int .i64 x1, .int .i64 y0, .int .i64 y1, .int .i64 z0, .int .i64 z1] 33 (0, 0)), .inl (.cells #[.int .i64 g0, .int .i64 g1, .int .i64 c0, .int .i64 c1, .int .i64 m0, .int .i64 m1, .int .i64 p0, .int .i64 p1] 31 (0, 0)), .inl (.cells #[.string s, .int .i64 lm, .int .i64 t0, .int .i64 t1, .int .i64 hs, .int .i64 by_, .int .i64 hzn, .int .i64 ey, .int .i64 sh, .int .i64 tp, .int .i64 pr] 28 (0, 0)), .inl (.cells #[.int .i64 ix, .slice ea en ec] 24 (0, 0))]) := ⟨_, rfl⟩
     have HV5 : Hid (OwG aR w5 (lay w [.inr d0, .inl (.cells #[.int .i64 x0, .int .i64 x1, .int .i64 y0, .int .i64 y1, .int .i64 z0, .int .i64 z1] 33 (0, 0)), .inl (.cells #[.int .i64 g0, .int .i64 g1, .int .i64 c0, .int .i64 c1, .int .i64 m0, .int .i64 m1, .int .i64 p0, .int .i64 p1] 31 (0, 0)), .inl (.cells #[.string s, .int .i64 lm, .int .i64 t0, .int .i64 t1, .int .i64 hs, .int .i64 by_, .int .i64 hzn, .int .i64 ey, .int .i64 sh, .int .i64 tp, .int .i64 pr] 28 (0, 0)), .inl (.cells #[.int .i64 ix, .slice ea en ec] 24 (0, 0))]).heap.size (.slice vadB 2 vcdB) ([] ++ [(H0, H1), (Z0, Z1)])) := Lib.hid (by rw [hw5]; exact HVB.out)
     have HE5 : Hid (∃ d, w5 = bw w d) := Lib.hid (by rw [hw5]; exact lay_ex w _)
     rw [show lay w (.inl (.cells #[.int .i64 la0, .int .i64 la1, .int .i64 lo0, .int .i64 lo1] 52 (0, 0)) :: .inr dP :: .inl (.cells #[.int .i64 e0, .int .i64 e1, .int .i64 f0, .int .i64 f1, .int .i64 j0, .int .i64 j1] 48 (0, 0)) :: .inr dO :: .inr dB :: [.inr d0, .inl (.cells #[.int .i64 x0, .int .i64 x1, .int .i64 y0, .int .i64 y1, .int .i64 z0, .int .i64 z1] 33 (0, 0)), .inl (.cells #[.int .i64 g0, .int .i64 g1, .int .i64 c0, .int .i64 c1, .int .i64 m0, .int .i64 m1, .int .i64 p0, .int .i64 p1] 31 (0, 0)), .inl (.cells #[.string s, .int .i64 lm, .int .i64 t0, .int .i64 t1, .int .i64 hs, .int .i64 by_, .int .i64 hzn, .int .i64 ey, .int .i64 sh, .int .i64 tp, .int .i64 pr] 28 (0, 0)), .inl (.cells #[.int .i64 ix, .slice ea en ec] 24 (0, 0))]) = lay w5 [.inr d5] from by rw [hw5]; exact h5]
     clear h5 hw5
     have HR5 : Hid (PrR w w5 (.slice vadB 2 vcdB) 2) := Lib.hid (prR_of HV5.out (lay_extends w [.inr d0, .inl (.cells #[.int .i64 x0, .int .i64 x1, .int .i64 y0, .int .i64 y1, .int .i64 z0, .int .i64 z1] 33 (0, 0)), .inl (.cells #[.int .i64 g0, .int .i64 g1, .int .i64 c0, .int .i64 c1, .int .i64 m0, .int .i64 m1, .int .i64 p0, .int .i64 p1] 31 (0, 0)), .inl (.cells #[.string s, .int .i64 lm, .int .i64 t0, .int .i64 t1, .int .i64 hs, .int .i64 by_, .int .i64 hzn, .int .i64 ey, .int .i64 sh, .int .i64 tp, .int .i64 pr] 28 (0, 0)), .inl (.cells #[.int .i64 ix, .slice ea en ec] 24 (0, 0))]).size rfl HT.out HE5.out)
     obtain ⟨ga, ca, hge, hgl⟩ := HR5.out.form (by decide)
     cases hge
     have HT5 : Hid (TpW w5) := Lib.hid (by obtain ⟨d, hd⟩ := HE5.out; rw [hd]; exact HT.out.bw d)
     clear HV5
     go_wp2_with fail
     go_loopw [132] (fun vi wr => ∃ (i : Nat) (dd : Ext), i ≤ 2 ∧ vi = .int .i64 (i : Int) ∧ wr = lay w5 [.inr dd]) (fun vi _ => 2 - (intOf vi).toNat)
     case atStart =>
      obtain ⟨dd, hd⟩ := lay_ex w5 [.inr d5]
      exact ⟨0, dd, by decide, rfl, hd⟩
     case round =>
      obtain ⟨i, dd, hi, rfl, rfl⟩ := hrel
      by_cases hlt : i < 2
      ·obtain ⟨u1, u2, q1, q2, q3⟩ := HR5.out.at_ hlt
       have HQ5 := Lib.hid q3
       have x1 : (i : Int) < 2 := by omega
       clear q3
       go_wp2_with fail
       refine (tp_Print u1 u2 HQ5.out.1 HQ5.out.2.1 HQ5.out.2.2 _ (HT5.out.lay _)).mono ?_
       rintro e w' ⟨rfl, dp, rfl⟩
       rw [lay_bw]
       go_wp2_with (go_at_call 12; refine (tp_recPrinted u1 u2 HQ5.out.1 HQ5.out.2.1 HQ5.out.2.2 _ (HT5.out.lay _)).mono ?_; rintro e w' ⟨rfl, dr, rfl⟩; rw [lay_bw])
       obtain ⟨de, hde⟩ := lay_ex w5 (.inr dr :: _)
       exact ⟨⟨i + 1, de, hlt, by simp, hde⟩, by simp only [intOf]; omega⟩
      ·obtain rfl : i = 2 := by omega
       go_wp2_with fail
       obtain ⟨e5, he5⟩ := HE5.out
       exact bodyPost_ret (v := .bool true) (by simp [results, Tryz.results3, go_sem]) rfl ⟨rfl, _, by rw [he5]; exact bw_bw _ _ _⟩
   ·refine (vec_OfN y0 y1 z0 z1 hv2 _).mono ?_
    rintro e w' ⟨rfl, dO, rfl⟩
    rw [lay_bw]
    go_wp2_with fail
    obtain ⟨d5, h5⟩ := lay_in w [.inl (.cells #[.int .i64 0, .int .i64 0, .int .i64 0, .int .i64 0, .int .i64 0, .int .i64 0] 48 (0, 0)), .inr dO] (.inr dB :: [.inr d0, .inl (.cells #[.int .i64 x0, .int .i64 x1, .int .i64 y0, .int .i64 y1, .int .i64 z0, .int .i64 z1] 33 (0, 0)), .inl (.cells #[.int .i64 g0, .int .i64 g1, .int .i64 c0, .int .i64 c1, .int .i64 m0, .int .i64 m1, .int .i64 p0, .int .i64 p1] 31 (0, 0)), .inl (.cells #[.string s, .int .i64 lm, .int .i64 t0, .int .i64 t1, .int .i64 hs, .int .i64 by_, .int .i64 hzn, .int .i64 ey, .int .i64 sh, .int .i64 tp, .int .i64 pr] 28 (0, 0)), .inl (.cells #[.int .i64 ix, .slice ea en ec] 24 (0, 0))])
    obtain ⟨w5, hw5⟩ : ∃ w5, w5 = lay w (.inr dB :: [.inr d0, .inl (.cells #[.int .i64 x0, .int .i64 x1, .int .i64 y0, .int .i64 y1, .int .i64 z0, .int .i64 z1] 33 (0, 0)), .inl (.cells #[.int .i64 g0, .int .i64 g1, .int .i64 c0, .int .i64 c1, .int .i64 m0, .int .i64 m1, .int .i64 p0, .int .i64 p1] 31 (0, 0)), .inl (.cells #[.string s, .int .i64 lm, .int .i64 t0, .int .i64 t1, .int .i64 hs, .int .i64 by_, .int .i64 hzn, .int .i64 ey, .int .i64 sh, .int .i64 tp, .int .i64 pr] 28 (0, 0)), .inl (.cells #[.int .i64 ix, .slice ea en ec] 24 (0, 0))]) := ⟨_, rfl⟩
    have HV5 : Hid (OwG aR w5 (lay w [.inr d0, .inl (.cells #[.int .i64 x0, .int .i64 x1, .int .i64 y0, .int .i64 y1, .int .i64 z0, .int .i64 z1] 33 (0, 0)), .inl (.cells #[.int .i64 g0, .int .i64 g1, .int .i64 c0, .int .i64 c1, .int .i64 m0, .int .i64 m1, .int .i64 p0, .int .i64 p1] 31 (0, 0)), .inl (.cells #[.string s, .int .i64 lm, .int .i64 t0, .int .i64 t1, .int .i64 hs, .int .i64 by_, .int .i64 hzn, .int .i64 ey, .int .i64 sh, .int .i64 tp, .int .i64 pr] 28 (0, 0)), .inl (.cells #[.int .i64 ix, .slice ea en ec] 24 (0, 0))]).heap.size (.slice vadB 2 vcdB) ([] ++ [(H0, H1), (Z0, Z1)])) := Lib.hid (by rw [hw5]; exact HVB.out)
    have HE5 : Hid (∃ d, w5 = bw w d) := Lib.hid (by rw [hw5]; exact lay_ex w _)
    rw [show lay w (.inl (.cells #[.int .i64 0, .int .i64 0, .int .i64 0, .int .i64 0, .int .i64 0, .int .i64 0] 48 (0, 0)) :: .inr dO :: .inr dB :: [.inr d0, .inl (.cells #[.int .i64 x0, .int .i64 x1, .int .i64 y0, .int .i64 y1, .int .i64 z0, .int .i64 z1] 33 (0, 0)), .inl (.cells #[.int .i64 g0, .int .i64 g1, .int .i64 c0, .int .i64 c1, .int .i64 m0, .int .i64 m1, .int .i64 p0, .int .i64 p1] 31 (0, 0)), .inl (.cells #[.string s, .int .i64 lm, .int .i64 t0, .int .i64 t1, .int .i64 hs, .int .i64 by_, .int .i64 hzn, .int .i64 ey, .int .i64 sh, .int .i64 tp, .int .i64 pr] 28 (0, 0)), .inl (.cells #[.int .i64 ix, .slice ea en ec] 24 (0, 0))]) = lay w5 [.inr d5] from by rw [hw5]; exact h5]
    clear h5 hw5
    have HR5 : Hid (PrR w w5 (.slice vadB 2 vcdB) 2) := Lib.hid (prR_of HV5.out (lay_extends w [.inr d0, .inl (.cells #[.int .i64 x0, .int .i64 x1, .int .i64 y0, .int .i64 y1, .int .i64 z0, .int .i64 z1] 33 (0, 0)), .inl (.cells #[.int .i64 g0, .int .i64 g1, .int .i64 c0, .int .i64 c1, .int .i64 m0, .int .i64 m1, .int .i64 p0, .int .i64 p1] 31 (0, 0)), .inl (.cells #[.string s, .int .i64 lm, .int .i64 t0, .int .i64 t1, .int .i64 hs, .int .i64 by_, .int .i64 hzn, .int .i64 ey, .int .i64 sh, .int .i64 tp, .int .i64 pr] 28 (0, 0)), .inl (.cells #[.int .i64 ix, .slice ea en ec] 24 (0, 0))]).size rfl HT.out HE5.out)
    obtain ⟨ga, ca, hge, hgl⟩ := HR5.out.form (by decide)
    cases hge
    have HT5 : Hid (TpW w5) := Lib.hid (by obtain ⟨d, hd⟩ := HE5.out; rw [hd]; exact HT.out.bw d)
    clear HV5
    go_wp2_with fail
    go_loopw [132] (fun vi wr => ∃ (i : Nat) (dd : Ext), i ≤ 2 ∧ vi = .int .i64 (i : Int) ∧ wr = lay w5 [.inr dd]) (fun vi _ => 2 - (intOf vi).toNat)
    case atStart =>
     obtain ⟨dd, hd⟩ := lay_ex w5 [.inr d5]
     exact ⟨0, dd, by decide, rfl, hd⟩
    case round =>
     obtain ⟨i, dd, hi, rfl, rfl⟩ := hrel
     by_cases hlt : i < 2
     ·obtain ⟨u1, u2, q1, q2, q3⟩ := HR5.out.at_ hlt
      have HQ5 := Lib.hid q3
      have x1 : (i : Int) < 2 := by omega
      clear q3
      go_wp2_with fail
      refine (tp_Print u1 u2 HQ5.out.1 HQ5.out.2.1 HQ5.out.2.2 _ (HT5.out.lay _)).mono ?_
      rintro e w' ⟨rfl, dp, rfl⟩
      rw [lay_bw]
      go_wp2_with (go_at_call 12; refine (tp_recPrinted u1 u2 HQ5.out.1 HQ5.out.2.1 HQ5.out.2.2 _ (HT5.out.lay _)).mono ?_; rintro e w' ⟨rfl, dr, rfl⟩; rw [lay_bw])
      obtain ⟨de, hde⟩ := lay_ex w5 (.inr dr :: _)
      exact ⟨⟨i + 1, de, hlt, by simp, hde⟩, by simp only [intOf]; omega⟩
     ·obtain rfl : i = 2 := by omega
      go_wp2_with fail
      obtain ⟨e5, he5⟩ := HE5.out
      exact bodyPost_ret (v := .bool true) (by simp [results, Tryz.results3, go_sem]) rfl ⟨rfl, _, by rw [he5]; exact bw_bw _ _ _⟩
  ·have ht' : triB x0 x1 y0 y1 z0 z1 = false := by simpa using ht
   refine (HSB.out ht' _).mono ?_
   rintro e w' ⟨rfl, dS, rfl⟩
   rw [lay_bw]
   clear ht
   go_wp2_with (go_at_call 7; refine (HR25.out _).mono ?_; rintro e w' ⟨rfl, dR, rfl⟩; rw [ht', lay_bw])
   by_cases hv2 : validB y0 y1 = true ∧ validB z0 z1 = true
   ·obtain ⟨e0, e1, f0, f1, j0, j1, he, hf, hj, hof⟩ := vec_Of y0 y1 z0 z1 hv2.1 hv2.2
    have HPl := Lib.hid (fun W => vec_Place e0 e1 f0 f1 j0 j1 he hf hj W)
    refine (hof _).mono ?_
    rintro e w' ⟨rfl, dO, rfl⟩
    rw [lay_bw]
    clear hof he hf hj hv2
    go_wp2_with fail
    refine (HPl.out _).mono ?_
    rintro e w' ⟨⟨la0, la1, lo0, lo1, kk, hkk, -, rfl⟩, dP, rfl⟩
    rw [lay_bw]
    by_cases hkk0 : kk = 0
    ·subst hkk0
     obtain ⟨hpw, hpd⟩ := hkk rfl
     have HQ := Lib.hid (plc_PrA hpw hpd)
     have HPP := Lib.hid (And.intro hpw hpd)
     clear hkk hpw hpd
     generalize hv0 : Value.slice none 0 0 = v0
     have HNil := Lib.hid hv0
     clear hv0
     go_wp2_with (at_builtin; refine push_litK aOk rfl _ _ rfl (lay w [.inr d0, .inl (.cells #[.int .i64 x0, .int .i64 x1, .int .i64 y0, .int .i64 y1, .int .i64 z0, .int .i64 z1] 33 (0, 0)), .inl (.cells #[.int .i64 g0, .int .i64 g1, .int .i64 c0, .int .i64 c1, .int .i64 m0, .int .i64 m1, .int .i64 p0, .int .i64 p1] 31 (0, 0)), .inl (.cells #[.string s, .int .i64 lm, .int .i64 t0, .int .i64 t1, .int .i64 hs, .int .i64 by_, .int .i64 hzn, .int .i64 ey, .int .i64 sh, .int .i64 tp, .int .i64 pr] 28 (0, 0)), .inl (.cells #[.int .i64 ix, .slice ea en ec] 24 (0, 0))]) (lay w [.inr d0, .inl (.cells #[.int .i64 x0, .int .i64 x1, .int .i64 y0, .int .i64 y1, .int .i64 z0, .int .i64 z1] 33 (0, 0)), .inl (.cells #[.int .i64 g0, .int .i64 g1, .int .i64 c0, .int .i64 c1, .int .i64 m0, .int .i64 m1, .int .i64 p0, .int .i64 p1] 31 (0, 0)), .inl (.cells #[.string s, .int .i64 lm, .int .i64 t0, .int .i64 t1, .int .i64 hs, .int .i64 by_, .int .i64 hzn, .int .i64 ey, .int .i64 sh, .int .i64 tp, .int .i64 pr] 28 (0, 0)), .inl (.cells #[.int .i64 ix, .slice ea en ec] 24 (0, 0))]).heap.size _ [(la0, la1), (lo0, lo1)] _ 29 _ _ _ v0 [] (lay_belowG (A := [.inl _, .inl _, .inr dP, .inl (.cells #[.int .i64 e0, .int .i64 e1, .int .i64 f0, .int .i64 f1, .int .i64 j0, .int .i64 j1] 48 (0, 0)), .inr dO, .inr dR, .inl (.cells #[.int .i64 0, .int .i64 0, .int .i64 0, .int .i64 0] 42 (0, 0)), .inr dS, .inl (.cells #[.int .i64 qi0, .int .i64 qi1, .int .i64 qd0, .int .i64 qd1, .int .i64 qr0, .int .i64 qr1, .int .i64 qp0, .int .i64 qp1, .int .i64 qs0, .int .i64 qs1, .int .i64 qa0, .int .i64 qa1, .int .i64 qo0, .int .i64 qo1] 37 (0, 0)), .inr dW])) (Nat.le_refl _) (lay_belowG (A := [.inl _, .inl _, .inr dP, .inl (.cells #[.int .i64 e0, .int .i64 e1, .int .i64 f0, .int .i64 f1, .int .i64 j0, .int .i64 j1] 48 (0, 0)), .inr dO, .inr dR, .inl (.cells #[.int .i64 0, .int .i64 0, .int .i64 0, .int .i64 0] 42 (0, 0)), .inr dS, .inl (.cells #[.int .i64 qi0, .int .i64 qi1, .int .i64 qd0, .int .i64 qd1, .int .i64 qr0, .int .i64 qr1, .int .i64 qp0, .int .i64 qp1, .int .i64 qs0, .int .i64 qs1, .int .i64 qa0, .int .i64 qa1, .int .i64 qo0, .int .i64 qo1] 37 (0, 0)), .inr dW])).size (by rw [← HNil.out]; exact OwG.nil _ _ _) (lay_get w _ 0 _ rfl) rfl rfl rfl rfl (by simp) (by simp) (fun y hy => by simp only [List.mem_cons, List.not_mem_nil, or_false] at hy; rcases hy with rfl | rfl; exact HQ.out.1; exact HQ.out.2) ?_; intro v' dC hv' hg; have hbx : (bw (lay w [.inr d0, .inl (.cells #[.int .i64 x0, .int .i64 x1, .int .i64 y0, .int .i64 y1, .int .i64 z0, .int .i64 z1] 33 (0, 0)), .inl (.cells #[.int .i64 g0, .int .i64 g1, .int .i64 c0, .int .i64 c1, .int .i64 m0, .int .i64 m1, .int .i64 p0, .int .i64 p1] 31 (0, 0)), .inl (.cells #[.string s, .int .i64 lm, .int .i64 t0, .int .i64 t1, .int .i64 hs, .int .i64 by_, .int .i64 hzn, .int .i64 ey, .int .i64 sh, .int .i64 tp, .int .i64 pr] 28 (0, 0)), .inl (.cells #[.int .i64 ix, .slice ea en ec] 24 (0, 0))]) dC).heap[posn w [dP.n, 1, dO.n, dR.n, 1, dS.n, 1, dW.n, d0.n, 1, 1, 1, 1]]? = some (.cells #[.int .i64 la0, .int .i64 la1, .int .i64 lo0, .int .i64 lo1] 52 (0, 0)) := (hg.kept _ (Array.getElem?_eq_some_iff.1 (lay_get w (.inl (.cells #[.int .i64 la0, .int .i64 la1, .int .i64 lo0, .int .i64 lo1] 29 (0, 0)) :: .inl (.cells #[.int .i64 la0, .int .i64 la1, .int .i64 lo0, .int .i64 lo1] 52 (0, 0)) :: .inr dP :: .inl (.cells #[.int .i64 e0, .int .i64 e1, .int .i64 f0, .int .i64 f1, .int .i64 j0, .int .i64 j1] 48 (0, 0)) :: .inr dO :: .inr dR :: .inl (.cells #[.int .i64 0, .int .i64 0, .int .i64 0, .int .i64 0] 42 (0, 0)) :: .inr dS :: .inl (.cells #[.int .i64 qi0, .int .i64 qi1, .int .i64 qd0, .int .i64 qd1, .int .i64 qr0, .int .i64 qr1, .int .i64 qp0, .int .i64 qp1, .int .i64 qs0, .int .i64 qs1, .int .i64 qa0, .int .i64 qa1, .int .i64 qo0, .int .i64 qo1] 37 (0, 0)) :: .inr dW :: [.inr d0, .inl (.cells #[.int .i64 x0, .int .i64 x1, .int .i64 y0, .int .i64 y1, .int .i64 z0, .int .i64 z1] 33 (0, 0)), .inl (.cells #[.int .i64 g0, .int .i64 g1, .int .i64 c0, .int .i64 c1, .int .i64 m0, .int .i64 m1, .int .i64 p0, .int .i64 p1] 31 (0, 0)), .inl (.cells #[.string s, .int .i64 lm, .int .i64 t0, .int .i64 t1, .int .i64 hs, .int .i64 by_, .int .i64 hzn, .int .i64 ey, .int .i64 sh, .int .i64 tp, .int .i64 pr] 28 (0, 0)), .inl (.cells #[.int .i64 ix, .slice ea en ec] 24 (0, 0))]) 1 _ rfl)).1 (own_ne (show OwG aR (lay w (.inl (.cells #[.int .i64 la0, .int .i64 la1, .int .i64 lo0, .int .i64 lo1] 29 (0, 0)) :: .inl (.cells #[.int .i64 la0, .int .i64 la1, .int .i64 lo0, .int .i64 lo1] 52 (0, 0)) :: .inr dP :: .inl (.cells #[.int .i64 e0, .int .i64 e1, .int .i64 f0, .int .i64 f1, .int .i64 j0, .int .i64 j1] 48 (0, 0)) :: .inr dO :: .inr dR :: .inl (.cells #[.int .i64 0, .int .i64 0, .int .i64 0, .int .i64 0] 42 (0, 0)) :: .inr dS :: .inl (.cells #[.int .i64 qi0, .int .i64 qi1, .int .i64 qd0, .int .i64 qd1, .int .i64 qr0, .int .i64 qr1, .int .i64 qp0, .int .i64 qp1, .int .i64 qs0, .int .i64 qs1, .int .i64 qa0, .int .i64 qa1, .int .i64 qo0, .int .i64 qo1] 37 (0, 0)) :: .inr dW :: [.inr d0, .inl (.cells #[.int .i64 x0, .int .i64 x1, .int .i64 y0, .int .i64 y1, .int .i64 z0, .int .i64 z1] 33 (0, 0)), .inl (.cells #[.int .i64 g0, .int .i64 g1, .int .i64 c0, .int .i64 c1, .int .i64 m0, .int .i64 m1, .int .i64 p0, .int .i64 p1] 31 (0, 0)), .inl (.cells #[.string s, .int .i64 lm, .int .i64 t0, .int .i64 t1, .int .i64 hs, .int .i64 by_, .int .i64 hzn, .int .i64 ey, .int .i64 sh, .int .i64 tp, .int .i64 pr] 28 (0, 0)), .inl (.cells #[.int .i64 ix, .slice ea en ec] 24 (0, 0))])) (lay w [.inr d0, .inl (.cells #[.int .i64 x0, .int .i64 x1, .int .i64 y0, .int .i64 y1, .int .i64 z0, .int .i64 z1] 33 (0, 0)), .inl (.cells #[.int .i64 g0, .int .i64 g1, .int .i64 c0, .int .i64 c1, .int .i64 m0, .int .i64 m1, .int .i64 p0, .int .i64 p1] 31 (0, 0)), .inl (.cells #[.string s, .int .i64 lm, .int .i64 t0, .int .i64 t1, .int .i64 hs, .int .i64 by_, .int .i64 hzn, .int .i64 ey, .int .i64 sh, .int .i64 tp, .int .i64 pr] 28 (0, 0)), .inl (.cells #[.int .i64 ix, .slice ea en ec] 24 (0, 0))]).heap.size v0 ([]) from (by rw [← HNil.out]; exact OwG.nil _ _ _)) (lay_get w (.inl (.cells #[.int .i64 la0, .int .i64 la1, .int .i64 lo0, .int .i64 lo1] 29 (0, 0)) :: .inl (.cells #[.int .i64 la0, .int .i64 la1, .int .i64 lo0, .int .i64 lo1] 52 (0, 0)) :: .inr dP :: .inl (.cells #[.int .i64 e0, .int .i64 e1, .int .i64 f0, .int .i64 f1, .int .i64 j0, .int .i64 j1] 48 (0, 0)) :: .inr dO :: .inr dR :: .inl (.cells #[.int .i64 0, .int .i64 0, .int .i64 0, .int .i64 0] 42 (0, 0)) :: .inr dS :: .inl (.cells #[.int .i64 qi0, .int .i64 qi1, .int .i64 qd0, .int .i64 qd1, .int .i64 qr0, .int .i64 qr1, .int .i64 qp0, .int .i64 qp1, .int .i64 qs0, .int .i64 qs1, .int .i64 qa0, .int .i64 qa1, .int .i64 qo0, .int .i64 qo1] 37 (0, 0)) :: .inr dW :: [.inr d0, .inl (.cells #[.int .i64 x0, .int .i64 x1, .int .i64 y0, .int .i64 y1, .int .i64 z0, .int .i64 z1] 33 (0, 0)), .inl (.cells #[.int .i64 g0, .int .i64 g1, .int .i64 c0, .int .i64 c1, .int .i64 m0, .int .i64 m1, .int .i64 p0, .int .i64 p1] 31 (0, 0)), .inl (.cells #[.string s, .int .i64 lm, .int .i64 t0, .int .i64 t1, .int .i64 hs, .int .i64 by_, .int .i64 hzn, .int .i64 ey, .int .i64 sh, .int .i64 tp, .int .i64 pr] 28 (0, 0)), .inl (.cells #[.int .i64 ix, .slice ea en ec] 24 (0, 0))]) 1 _ rfl) (by decide))).trans (lay_get w (.inl (.cells #[.int .i64 la0, .int .i64 la1, .int .i64 lo0, .int .i64 lo1] 29 (0, 0)) :: .inl (.cells #[.int .i64 la0, .int .i64 la1, .int .i64 lo0, .int .i64 lo1] 52 (0, 0)) :: .inr dP :: .inl (.cells #[.int .i64 e0, .int .i64 e1, .int .i64 f0, .int .i64 f1, .int .i64 j0, .int .i64 j1] 48 (0, 0)) :: .inr dO :: .inr dR :: .inl (.cells #[.int .i64 0, .int .i64 0, .int .i64 0, .int .i64 0] 42 (0, 0)) :: .inr dS :: .inl (.cells #[.int .i64 qi0, .int .i64 qi1, .int .i64 qd0, .int .i64 qd1, .int .i64 qr0, .int .i64 qr1, .int .i64 qp0, .int .i64 qp1, .int .i64 qs0, .int .i64 qs1, .int .i64 qa0, .int .i64 qa1, .int .i64 qo0, .int .i64 qo1] 37 (0, 0)) :: .inr dW :: [.inr d0, .inl (.cells #[.int .i64 x0, .int .i64 x1, .int .i64 y0, .int .i64 y1, .int .i64 z0, .int .i64 z1] 33 (0, 0)), .inl (.cells #[.int .i64 g0, .int .i64 g1, .int .i64 c0, .int .i64 c1, .int .i64 m0, .int .i64 m1, .int .i64 p0, .int .i64 p1] 31 (0, 0)), .inl (.cells #[.string s, .int .i64 lm, .int .i64 t0, .int .i64 t1, .int .i64 hs, .int .i64 by_, .int .i64 hzn, .int .i64 ey, .int .i64 sh, .int .i64 tp, .int .i64 pr] 28 (0, 0)), .inl (.cells #[.int .i64 ix, .slice ea en ec] 24 (0, 0))]) 1 _ rfl); obtain ⟨w5, hw5⟩ : ∃ w5, w5 = bw (lay w [.inr d0, .inl (.cells #[.int .i64 x0, .int .i64 x1, .int .i64 y0, .int .i64 y1, .int .i64 z0, .int .i64 z1] 33 (0, 0)), .inl (.cells #[.int .i64 g0, .int .i64 g1, .int .i64 c0, .int .i64 c1, .int .i64 m0, .int .i64 m1, .int .i64 p0, .int .i64 p1] 31 (0, 0)), .inl (.cells #[.string s, .int .i64 lm, .int .i64 t0, .int .i64 t1, .int .i64 hs, .int .i64 by_, .int .i64 hzn, .int .i64 ey, .int .i64 sh, .int .i64 tp, .int .i64 pr] 28 (0, 0)), .inl (.cells #[.int .i64 ix, .slice ea en ec] 24 (0, 0))]) dC := ⟨_, rfl⟩; rw [← hw5] at hv' hbx ⊢; have k0 : w5.cell? ⟨posn w [dP.n, 1, dO.n, dR.n, 1, dS.n, 1, dW.n, d0.n, 1, 1, 1, 1], 0, none⟩ = some (.int .i64 la0) := (by unfold World.cell?; dsimp only; rw [hbx]; rfl); have k1 : w5.cell? ⟨posn w [dP.n, 1, dO.n, dR.n, 1, dS.n, 1, dW.n, d0.n, 1, 1, 1, 1], 1, none⟩ = some (.int .i64 la1) := (by unfold World.cell?; dsimp only; rw [hbx]; rfl); have k2 : w5.cell? ⟨posn w [dP.n, 1, dO.n, dR.n, 1, dS.n, 1, dW.n, d0.n, 1, 1, 1, 1], 2, none⟩ = some (.int .i64 lo0) := (by unfold World.cell?; dsimp only; rw [hbx]; rfl); have k3 : w5.cell? ⟨posn w [dP.n, 1, dO.n, dR.n, 1, dS.n, 1, dW.n, d0.n, 1, 1, 1, 1], 3, none⟩ = some (.int .i64 lo1) := (by unfold World.cell?; dsimp only; rw [hbx]; rfl); have hpl := cell_lt k0; have HE5 : Hid (∃ d, w5 = bw w d) := Lib.hid (by rw [hw5, lay_bw]; exact lay_ex w _); clear hg hbx hw5)
     obtain ⟨vadC, vcdC, rfl⟩ := hv'.form
     rw [show ([] ++ [(la0, la1), (lo0, lo1)] : List (Int × Int)).length = 2 from rfl] at hv' ⊢
     have HV5 := Lib.hid hv'
     clear hv'
     have HT6 : Hid (TpW w5) := Lib.hid (by obtain ⟨d, hd⟩ := HE5.out; rw [hd]; exact HT.out.bw d)
     rw [show w5 = lay w5 [] from rfl]
     go_wp2_with fail
     refine (tp_plcPrint la0 la1 lo0 lo1 HPP.out.1 HPP.out.2 _ (HT6.out.lay _)).mono ?_
     rintro e w' ⟨rfl, dX, rfl⟩
     rw [lay_bw]
     go_wp2_with fail
     refine (tp_cutP la0 la1 lo0 lo1 HQ.out.1 HQ.out.2 _ (HT6.out.lay _)).mono ?_
     rintro e w' ⟨rfl, dY, rfl⟩
     rw [lay_bw]
     go_wp2_with fail
     refine (tp_recPrinted la0 la1 HQ.out.1.1 HQ.out.1.2.1 HQ.out.1.2.2 _ (HT6.out.lay _)).mono ?_
     rintro e w' ⟨rfl, dZ, rfl⟩
     rw [lay_bw]
     go_wp2_with fail
     refine (tp_recPrinted lo0 lo1 HQ.out.2.1 HQ.out.2.2.1 HQ.out.2.2.2 _ (HT6.out.lay _)).mono ?_
     rintro e w' ⟨rfl, dV, rfl⟩
     rw [lay_bw]
     clear k0 k1 k2 k3 hpl
     have HR5 : Hid (PrR w w5 (.slice vadC 2 vcdC) 2) := Lib.hid (prR_of HV5.out (lay_extends w [.inr d0, .inl (.cells #[.int .i64 x0, .int .i64 x1, .int .i64 y0, .int .i64 y1, .int .i64 z0, .int .i64 z1] 33 (0, 0)), .inl (.cells #[.int .i64 g0, .int .i64 g1, .int .i64 c0, .int .i64 c1, .int .i64 m0, .int .i64 m1, .int .i64 p0, .int .i64 p1] 31 (0, 0)), .inl (.cells #[.string s, .int .i64 lm, .int .i64 t0, .int .i64 t1, .int .i64 hs, .int .i64 by_, .int .i64 hzn, .int .i64 ey, .int .i64 sh, .int .i64 tp, .int .i64 pr] 28 (0, 0)), .inl (.cells #[.int .i64 ix, .slice ea en ec] 24 (0, 0))]).size rfl HT.out HE5.out)
     obtain ⟨ga, ca, hge, hgl⟩ := HR5.out.form (by decide)
     cases hge
     have HT5 : Hid (TpW w5) := Lib.hid (by obtain ⟨d, hd⟩ := HE5.out; rw [hd]; exact HT.out.bw d)
     clear HV5
     go_wp2_with fail
     go_loopw [132] (fun vi wr => ∃ (i : Nat) (dd : Ext), i ≤ 2 ∧ vi = .int .i64 (i : Int) ∧ wr = lay w5 [.inr dd]) (fun vi _ => 2 - (intOf vi).toNat)
     case atStart =>
      obtain ⟨dd, hd⟩ := lay_ex w5 [.inr dV, .inr dZ, .inr dY, .inr dX]
      exact ⟨0, dd, by decide, rfl, hd⟩
     case round =>
      obtain ⟨i, dd, hi, rfl, rfl⟩ := hrel
      by_cases hlt : i < 2
      ·obtain ⟨u1, u2, q1, q2, q3⟩ := HR5.out.at_ hlt
       have HQ5 := Lib.hid q3
       have x1 : (i : Int) < 2 := by omega
       clear q3
       go_wp2_with fail
       refine (tp_Print u1 u2 HQ5.out.1 HQ5.out.2.1 HQ5.out.2.2 _ (HT5.out.lay _)).mono ?_
       rintro e w' ⟨rfl, dp, rfl⟩
       rw [lay_bw]
       go_wp2_with (go_at_call 12; refine (tp_recPrinted u1 u2 HQ5.out.1 HQ5.out.2.1 HQ5.out.2.2 _ (HT5.out.lay _)).mono ?_; rintro e w' ⟨rfl, dr, rfl⟩; rw [lay_bw])
       obtain ⟨de, hde⟩ := lay_ex w5 (.inr dr :: _)
       exact ⟨⟨i + 1, de, hlt, by simp, hde⟩, by simp only [intOf]; omega⟩
      ·obtain rfl : i = 2 := by omega
       go_wp2_with fail
       obtain ⟨e5, he5⟩ := HE5.out
       exact bodyPost_ret (v := .bool true) (by simp [results, Tryz.results3, go_sem]) rfl ⟨rfl, _, by rw [he5]; exact bw_bw _ _ _⟩
    ·have hkn : (kk == 0) = false := beq_eq_false_iff_ne.2 hkk0
     clear hkk hkk0
     go_wp2_with fail
     refine wp_loop_rounds 1 ?_
     rw [rounds_succ]
     go_wp2_with fail
     exact bodyPost_ret (v := .bool true) (by simp [results, Tryz.results3, go_sem]) rfl ⟨rfl, lay_ex _ _⟩
   ·refine (vec_OfN y0 y1 z0 z1 hv2 _).mono ?_
    rintro e w' ⟨rfl, dO, rfl⟩
    rw [lay_bw]
    go_wp2_with fail
    refine wp_loop_rounds 1 ?_
    rw [rounds_succ]
    go_wp2_with fail
    exact bodyPost_ret (v := .bool true) (by simp [results, Tryz.results3, go_sem]) rfl ⟨rfl, lay_ex _ _⟩
end Go.Proofs.YtcbicpbbjbkiaaaGreatDoor

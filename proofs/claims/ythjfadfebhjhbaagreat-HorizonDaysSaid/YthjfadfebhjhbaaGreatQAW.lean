/- Contracts and plain laws, several texts in one: Wh6 -/
import Derived.Test.YthjfadfebhjhbaaGreatProg
import Derived.WalkKit
import Derived.WalkSpells
import Derived.WalkLawsBesides
import Derived.Lib.Hide
import Derived.BigQuiet
import Derived.Test.YthjfadfebhjhbaaGreatQAA
import Derived.Test.YthjfadfebhjhbaaGreatQAB
import Derived.Test.YthjfadfebhjhbaaGreatQAN
import Derived.Test.YthjfadfebhjhbaaGreatQAV
/- The reference's Where. -/
namespace Go.Proofs.YthjfadfebhjhbaaGreat
open Go.RowKit Go.Shelf

set_option maxHeartbeats 400000 in
theorem ref13_Dec (n : Int) (w : World) (h0 : -1000000000 ≤ n) (h1 : n ≤ 1000000000) :
    Calls Tryz.prog 66 #[.int .i64 n] w fun e w' => e = .returned (.agg #[.int .i64 (dcL n), .int .i64 (dcH n)]) ∧ ∃ d, w' = bw w d := by
  have HA := Lib.hid (fun W => ref13_Around n W h0 h1)
  have HL := Lib.hid (fun W => ref13_Latitude (100 * n - 50) (100 * n + 50) W)
  change Hid (∀ W, Calls Tryz.prog _ _ W fun e w' => e = .returned (.agg #[.int .i64 (dcL n), .int .i64 (dcH n)]) ∧ ∃ d, w' = bw W d) at HL
  generalize dcL n = x at *
  generalize dcH n = y at *
  refine lay_start ?_
  go_enter Tryz.func66, Tryz.ntmps66
  go_wp2_with (first | (go_at_call 65; refine (HA.out _).mono ?_; rintro e w' ⟨rfl, d, rfl⟩) | (go_at_call 108; refine (HL.out _).mono ?_; rintro e w' ⟨rfl, d, rfl⟩))
  all_goals exact bodyPost_ret (v := (.agg #[.int .i64 (x), .int .i64 (y)])) (by simp [results, Tryz.results66, go_sem]) rfl ⟨rfl, lay_ex _ _⟩
def TkPost (P : Nat → Prop) (w0 w : World) (p : Option TrkV) (e : Ending) (w' : World) : Prop :=
  match p with
  | none => e = .returned (.tuple #[.agg #[.string ⟨#[]⟩, .slice none 0 0, .slice none 0 0, .int .i64 0, .int .i64 0, .int .i64 0], .bool false]) ∧ ∃ d, w' = bw w d
  | some t => ∃ x : TkW, e = .returned (.tuple #[.agg #[.string x.s, .slice x.ga x.gn x.gc, .slice x.da x.dn x.dc, .int .i64 x.p, .int .i64 x.q, .int .i64 x.r], .bool true]) ∧ TkD P w0 x t ∧ tkR.wf x ∧ ∃ d, w' = bw w d
set_option maxHeartbeats 2000000 in
set_option maxRecDepth 100000 in
theorem ref17_track {P : Nat → Prop} (vp vs : Value) (lp : List PgV) (s : ByteArray) (n : Int) (w0 w : World) (hE : Below w0.heap.size w0 w) (hp : PgsD P w0 vp lp) (hok : ∀ p ∈ lp, PgOk p) :
    Calls Tryz.prog 68 #[.agg #[vp, vs], .string s, .int .i64 n] w (TkPost P w0 w (trkAt lp s n)) := by
  have hpw : PgsD P w vp lp := hp.keep hE.size fun b _ hb => hE.block b hb
  have HAt := Lib.hid (fun L => ref17_at vp vs lp n (lay w L) (hpw.lay L) hok)
  unfold IdxPost at HAt
  rcases idxR_cases (pgIs n) lp with ⟨h1, h2⟩ | ⟨i, p, h1, h2, h3, h4⟩
  · have ht : trkAt lp s n = none := by unfold trkAt; rw [h2]; rfl
    rw [ht]
    unfold pgAt at HAt
    rw [h1] at HAt
    unfold TkPost
    clear hp hpw hok hE h1 h2 ht
    refine lay_start ?_
    go_enter Tryz.func68, Tryz.ntmps68
    go_wp2_with (go_at_call 109; refine (HAt.out _).mono ?_; rintro e w' ⟨rfl, d1, rfl⟩)
    exact bodyPost_ret (v := .tuple #[.agg #[.string ⟨#[]⟩, .slice none 0 0, .slice none 0 0, .int .i64 0, .int .i64 0, .int .i64 0], .bool false]) (by simp [results, Tryz.results68, go_sem]) rfl ⟨rfl, lay_ex _ _⟩
  · unfold pgAt at HAt
    rw [h1] at HAt
    have hil := (List.getElem?_eq_some_iff.1 h2).1
    obtain ⟨q, hq⟩ : ∃ q, lp.length = q := ⟨_, rfl⟩
    obtain ⟨b, o, cap, rfl, hcc, hbb, -, hr⟩ := hp.open (by omega)
    rw [hq] at hcc hil
    rw [hq] at HAt hp hpw ⊢
    obtain ⟨x, hw, hD, c0, c1, c2, c3⟩ := hr i p h2
    have hb2 : b < w.heap.size := Nat.lt_of_lt_of_le hbb hE.size
    replace c0 := (hE.cell (p := ⟨b, o + i * 4, none⟩) hbb).trans c0
    replace c1 := (hE.cell (p := ⟨b, o + i * 4 + 1, none⟩) hbb).trans c1
    replace c2 := (hE.cell (p := ⟨b, o + i * 4 + 2, none⟩) hbb).trans c2
    replace c3 := (hE.cell (p := ⟨b, o + i * 4 + 3, none⟩) hbb).trans c3
    have HFd := Lib.hid (fun L => ref13_Find x.y x.m x.d (.slice x.ta x.tn x.tc) p.ts s (lay w L) ((hD.ts.keep hE.size fun b _ hb => hE.block b hb).lay L))
    unfold IdxPost at HFd
    have x1 : (i : Int) < (q : Int) := by omega
    have x0 : (0 : Int) ≤ (i : Int) := by omega
    have x2 : ¬ (i : Int) < 0 := by omega
    rcases idxR_cases (fun t : TrkV => nmB t.s s) p.ts with ⟨k1, k2⟩ | ⟨j, t, k1, k2, k3, k4⟩
    · have ht : trkAt lp s n = none := by unfold trkAt; rw [h3]; exact k2
      rw [ht]
      rw [show fndT p.ts s = -1 from k1] at HFd
      unfold TkPost
      clear hp hpw hok hE h1 h2 h3 h4 ht hr hw hD k1 k2 hq hbb
      obtain ⟨xy, xm, xd, xa, xn, xc⟩ := x
      dsimp only at c0 c1 c2 c3 HFd
      refine lay_start ?_
      go_enter Tryz.func68, Tryz.ntmps68
      go_wp2_with (first | (go_at_call 109; refine (HAt.out _).mono ?_; rintro e w' ⟨rfl, d1, rfl⟩) | (go_at_call 110; refine (HFd.out _).mono ?_; rintro e w' ⟨rfl, d2, rfl⟩))
      exact bodyPost_ret (v := .tuple #[.agg #[.string ⟨#[]⟩, .slice none 0 0, .slice none 0 0, .int .i64 0, .int .i64 0, .int .i64 0], .bool false]) (by simp [results, Tryz.results68, go_sem]) rfl ⟨rfl, lay_ex _ _⟩
    · have ht : trkAt lp s n = some t := by unfold trkAt; rw [h3]; exact k3
      rw [ht]
      rw [show fndT p.ts s = (j : Int) from k1] at HFd
      have hjl := (List.getElem?_eq_some_iff.1 k2).1
      obtain ⟨u, hu⟩ : ∃ u, p.ts.length = u := ⟨_, rfl⟩
      obtain ⟨b3, o3, cap3, hve, hcc3, hbb3, -, hr3⟩ := hD.ts.open (by omega)
      rw [hu] at hve hcc3 hjl
      obtain ⟨xy, xm, xd, xa, xn, xc⟩ := x
      cases hve
      dsimp only at c0 c1 c2 c3 HFd hcc3 hjl
      obtain ⟨z, hzw, hzD, e0, e1, e2, e3, e4, e5⟩ := hr3 j t k2
      have hb4 : b3 < w.heap.size := Nat.lt_of_lt_of_le hbb3 hE.size
      replace e0 := (hE.cell (p := ⟨b3, o3 + j * 6, none⟩) hbb3).trans e0
      replace e1 := (hE.cell (p := ⟨b3, o3 + j * 6 + 1, none⟩) hbb3).trans e1
      replace e2 := (hE.cell (p := ⟨b3, o3 + j * 6 + 2, none⟩) hbb3).trans e2
      replace e3 := (hE.cell (p := ⟨b3, o3 + j * 6 + 3, none⟩) hbb3).trans e3
      replace e4 := (hE.cell (p := ⟨b3, o3 + j * 6 + 4, none⟩) hbb3).trans e4
      replace e5 := (hE.cell (p := ⟨b3, o3 + j * 6 + 5, none⟩) hbb3).trans e5
      have HZ := Lib.hid hzD
      have HZw := Lib.hid hzw
      have y1 : (j : Int) < (xn : Int) := by omega
      have y0 : (0 : Int) ≤ (j : Int) := by omega
      have y2 : ¬ (j : Int) < 0 := by omega
      unfold TkPost
      clear hp hpw hok hE h1 h2 h3 h4 ht hr hw hD k1 k2 k3 k4 hr3 hzD hzw hq hbb hbb3
      obtain ⟨zs, za, zn, zc, zda, zdn, zdc, zp, zq, zr⟩ := z
      dsimp only at e0 e1 e2 e3 e4 e5
      refine lay_start ?_
      go_enter Tryz.func68, Tryz.ntmps68
      go_wp2_with (first | (go_at_call 109; refine (HAt.out _).mono ?_; rintro e w' ⟨rfl, d1, rfl⟩) | (go_at_call 110; refine (HFd.out _).mono ?_; rintro e w' ⟨rfl, d2, rfl⟩))
      exact bodyPost_ret (v := .tuple #[.agg #[.string zs, .slice za zn zc, .slice zda zdn zdc, .int .i64 zp, .int .i64 zq, .int .i64 zr], .bool true]) (by simp [results, Tryz.results68, go_sem]) rfl ⟨⟨zs, za, zn, zc, zda, zdn, zdc, zp, zq, zr⟩, rfl, HZ.out, HZw.out, lay_ex _ _⟩
theorem known_has (lp : List PgV) (ls : List StarV) (s : ByteArray) : hasB ([ariesS] ++ tkL lp ++ ls.map StarV.s) s = knownB lp ls s := by
  rw [Bool.eq_iff_iff, hasB_iff]
  unfold knownB
  rw [Bool.or_eq_true, Bool.or_eq_true, isA_iff, fndS_iff, Lib.containsS_iff, List.mem_append, List.mem_append, List.mem_singleton, List.mem_map]
  constructor
  · rintro ((h | h) | ⟨x, hx, h⟩)
    · exact .inl (.inl h)
    · exact .inr h
    · exact .inl (.inr ⟨x, hx, h⟩)
  · rintro ((h | ⟨x, hx, h⟩) | h)
    · exact .inl (.inl h)
    · exact .inr ⟨x, hx, h⟩
    · exact .inl (.inr h)
structure RfL (P : Nat → Prop) (w : World) (vp vs : Value) (lp : List PgV) (ls : List StarV) : Prop where
  pgs : PgsD P w vp lp
  sts : SlG stR w vs ls
  ok : ∀ p ∈ lp, PgOk p
  few : lp.length ≤ 40
  cat : catB ls = true
theorem RfL.fewL {P : Nat → Prop} {w : World} {vp vs : Value} {lp : List PgV} {ls : List StarV} (h : RfL P w vp vs lp ls) : Few lp := ⟨by have := h.few; omega, fun p hp => by have := (h.ok p hp).len; omega⟩
theorem RfL.bodies {P : Nat → Prop} {w : World} {vp vs : Value} {lp : List PgV} {ls : List StarV} (h : RfL P w vp vs lp ls) : Hid (∀ L, Calls Tryz.prog 60 #[.agg #[vp, vs]] (lay w L) (StrOwn (lay w L) ([ariesS] ++ tkL lp ++ ls.map StarV.s))) :=
  Lib.hid (fun L => ref17_Bodies vp vs lp ls (lay w L) (h.pgs.lay L) h.fewL (h.sts.lay L) (by have := (catB_iff.1 h.cat).len; omega))
theorem has_known (lp : List PgV) (ls : List StarV) (s : ByteArray) : Hid (∀ v W, SlG strR W v ([ariesS] ++ tkL lp ++ ls.map StarV.s) → Calls Tryz.prog 59 #[v, .string s] W fun e w' => e = .returned (.bool (knownB lp ls s)) ∧ ∃ d, w' = bw W d) :=
  Lib.hid (fun v W h => by rw [← known_has]; exact ref17_has v _ s W h)
set_option maxHeartbeats 2000000 in
set_option maxRecDepth 100000 in
theorem ref17_Where_early {P : Nat → Prop} (vp vs : Value) (lp : List PgV) (ls : List StarV) (s : ByteArray) (a b : Int) (w : World) (h : RfL P w vp vs lp ls) (hw : timB a b = false ∨ knownB lp ls s = false ∨ 86400000 ≤ b - a) :
    Calls Tryz.prog 30 #[.agg #[vp, vs], .string s, (.agg #[.int .i64 (a), .int .i64 (b)])] w fun e w' => e = .returned (.tuple #[gv g0, .int .i64 (if timB a b = false then 1 else if knownB lp ls s = false then 9 else 24)]) ∧ ∃ d, w' = bw w d := by
  have HV := Lib.hid (fun W => ref10_Valid a b W)
  have HBd := h.bodies
  have HHas := has_known lp ls s
  have hti := timB_iff (a := a) (b := b)
  clear h
  generalize timB a b = r at *
  generalize knownB lp ls s = k at *
  generalize [ariesS] ++ tkL lp ++ ls.map StarV.s = T at *
  cases r
  · rw [if_pos rfl]
    clear hw hti
    refine lay_start ?_
    go_enter Tryz.func30, Tryz.ntmps30
    go_wp2_with (first | (go_at_call 12; refine (HV.out _).mono ?_; rintro e w' ⟨rfl, dV, rfl⟩))
    exact bodyPost_ret (v := .tuple #[(.agg #[.int .i64 (0), .int .i64 (0), .int .i64 (0), .int .i64 (0), .int .i64 (0), .int .i64 (0), .int .i64 (0), .int .i64 (0)]), .int .i64 1]) (by simp [results, Tryz.results30, go_sem]) rfl ⟨rfl, lay_ex _ _⟩
  · rw [if_neg (by decide)]
    obtain ⟨g1, g2, g3⟩ := hti.1 rfl
    clear hti
    cases k
    · rw [if_pos rfl]
      clear hw g1 g2 g3
      refine lay_start ?_
      go_enter Tryz.func30, Tryz.ntmps30
      go_wp2_with (first | (go_at_call 12; refine (HV.out _).mono ?_; rintro e w' ⟨rfl, dV, rfl⟩))
      refine (HBd.out _).mono ?_
      rintro e w' ⟨vb, dB, rfl, rfl, hO⟩
      rw [lay_bw] at hO ⊢
      obtain ⟨ba, bc, rfl⟩ := hO.form
      have HO := Lib.hid (hO.sl strOk)
      clear hO
      go_wp2_with fail
      refine (HHas.out _ _ HO.out).mono ?_
      rintro e w' ⟨rfl, dH, rfl⟩
      rw [lay_bw]
      go_wp2_with fail
      exact bodyPost_ret (v := .tuple #[(.agg #[.int .i64 (0), .int .i64 (0), .int .i64 (0), .int .i64 (0), .int .i64 (0), .int .i64 (0), .int .i64 (0), .int .i64 (0)]), .int .i64 9]) (by simp [results, Tryz.results30, go_sem]) rfl ⟨rfl, lay_ex _ _⟩
    · rw [if_neg (by decide)]
      have hd : 86400000 ≤ b - a := by simpa using hw
      have z3 : decide ((86400000 : Int) ≤ wrap64 (b - a)) = true := decide_eq_true (by unfold wrap64; omega)
      clear hw g1 g2 g3
      refine lay_start ?_
      go_enter Tryz.func30, Tryz.ntmps30
      go_wp2_with (first | (go_at_call 12; refine (HV.out _).mono ?_; rintro e w' ⟨rfl, dV, rfl⟩))
      refine (HBd.out _).mono ?_
      rintro e w' ⟨vb, dB, rfl, rfl, hO⟩
      rw [lay_bw] at hO ⊢
      obtain ⟨ba, bc, rfl⟩ := hO.form
      have HO := Lib.hid (hO.sl strOk)
      clear hO
      go_wp2_with fail
      refine (HHas.out _ _ HO.out).mono ?_
      rintro e w' ⟨rfl, dH, rfl⟩
      rw [lay_bw]
      go_wp2_with fail
      exact bodyPost_ret (v := .tuple #[(.agg #[.int .i64 (0), .int .i64 (0), .int .i64 (0), .int .i64 (0), .int .i64 (0), .int .i64 (0), .int .i64 (0), .int .i64 (0)]), .int .i64 24]) (by simp [results, Tryz.results30, go_sem]) rfl ⟨rfl, lay_ex _ _⟩
set_option maxHeartbeats 2000000 in
set_option maxRecDepth 100000 in
theorem ref17_Where_aries {P : Nat → Prop} (vp vs : Value) (lp : List PgV) (ls : List StarV) (s : ByteArray) (a b : Int) (w : World) (h : RfL P w vp vs lp ls) (ht : timB a b = true) (hw : b - a < 86400000) (hs : isA s = true) :
    Calls Tryz.prog 30 #[.agg #[vp, vs], .string s, (.agg #[.int .i64 (a), .int .i64 (b)])] w fun e w' => e = .returned (.tuple #[gv ⟨agL a b, agH a b, 0, 0, 0, 0, 0, 0⟩, .int .i64 0]) ∧ ∃ d, w' = bw w d := by
  obtain ⟨g1, g2, g3⟩ := timB_iff.1 ht
  have HV := Lib.hid (fun W => ref10_Valid a b W)
  rw [ht] at HV
  have HBd := h.bodies
  have HHas := has_known lp ls s
  rw [known_aries hs] at HHas
  have HI := Lib.hid (fun W => ref12_Interval a b W (by omega) g1 (by omega) (ariF_le g1))
  change Hid (∀ W, Calls Tryz.prog _ _ W fun e w' => e = .returned (.agg #[.int .i64 (agL a b), .int .i64 (agH a b)]) ∧ ∃ d, w' = bw W d) at HI
  have z3 : decide ((86400000 : Int) ≤ wrap64 (b - a)) = false := decide_eq_false (by unfold wrap64; omega)
  have hs2 := isA_list hs
  unfold gv
  dsimp only
  clear h ht g1 g2 g3 hs
  generalize agL a b = x at *
  generalize agH a b = y at *
  generalize [ariesS] ++ tkL lp ++ ls.map StarV.s = T at *
  refine lay_start ?_
  go_enter Tryz.func30, Tryz.ntmps30
  go_wp2_with (first | (go_at_call 12; refine (HV.out _).mono ?_; rintro e w' ⟨rfl, dV, rfl⟩))
  refine (HBd.out _).mono ?_
  rintro e w' ⟨vb, dB, rfl, rfl, hO⟩
  rw [lay_bw] at hO ⊢
  obtain ⟨ba, bc, rfl⟩ := hO.form
  have HO := Lib.hid (hO.sl strOk)
  clear hO
  go_wp2_with fail
  refine (HHas.out _ _ HO.out).mono ?_
  rintro e w' ⟨rfl, dH, rfl⟩
  rw [lay_bw]
  go_wp2_with (go_at_call 61; refine (HI.out _).mono ?_; rintro e w' ⟨rfl, dI, rfl⟩)
  exact bodyPost_ret (v := .tuple #[(.agg #[.int .i64 (x), .int .i64 (y), .int .i64 (0), .int .i64 (0), .int .i64 (0), .int .i64 (0), .int .i64 (0), .int .i64 (0)]), .int .i64 0]) (by simp [results, Tryz.results30, go_sem]) rfl ⟨rfl, lay_ex _ _⟩
set_option maxHeartbeats 2000000 in
set_option maxRecDepth 100000 in
theorem ref17_Where_star {P : Nat → Prop} (vp vs : Value) (lp : List PgV) (ls : List StarV) (s : ByteArray) (i : Nat) (x : StarV) (a b : Int) (w : World) (h : RfL P w vp vs lp ls) (ht : timB a b = true) (hw : b - a < 86400000) (hs : isA s = false) (hi : fndS ls s = (i : Int)) (hx : ls[i]? = some x) :
    Calls Tryz.prog 30 #[.agg #[vp, vs], .string s, (.agg #[.int .i64 (a), .int .i64 (b)])] w fun e w' => e = .returned (.tuple #[gv ⟨sgL a b x.sha, sgH a b x.sha, dcL x.dec, dcH x.dec, 0, 0, 0, 0⟩, .int .i64 0]) ∧ ∃ d, w' = bw w d := by
  obtain ⟨g1, g2, g3⟩ := timB_iff.1 ht
  have HV := Lib.hid (fun W => ref10_Valid a b W)
  rw [ht] at HV
  have HBd := h.bodies
  have HHas := has_known lp ls s
  rw [known_star hi] at HHas
  have HI := Lib.hid (fun W => ref12_Interval a b W (by omega) g1 (by omega) (ariF_le g1))
  change Hid (∀ W, Calls Tryz.prog _ _ W fun e w' => e = .returned (.agg #[.int .i64 (agL a b), .int .i64 (agH a b)]) ∧ ∃ d, w' = bw W d) at HI
  obtain ⟨cn, cnum, cf⟩ := (catB_iff.1 h.cat).ok i x hx
  obtain ⟨⟨h0, h1⟩, ⟨y0, y1⟩, -, -⟩ : (0 ≤ x.sha ∧ x.sha ≤ 215999) ∧ (-54000 ≤ x.dec ∧ x.dec ≤ 54000) ∧ -20 ≤ x.mag ∧ x.mag ≤ 150 := by simpa [numB] using cnum
  have b1 := ag_bd g1
  have HA := Lib.hid (fun W => ref13_Around x.sha W (by omega) (by omega))
  have HD := Lib.hid (fun W => ref13_Dec x.dec W (by omega) (by omega))
  have HS := Lib.hid (fun W => ref05_Add (agL a b) (agH a b) (100 * x.sha - 50) (100 * x.sha + 50) W (by omega) (by omega) (by omega) (by omega))
  have HT := Lib.hid (fun W => ref05_Turn (agL a b + (100 * x.sha - 50)) (agH a b + (100 * x.sha + 50)) W (by omega) (by omega) (by omega))
  have HF := Lib.hid (fun L => ref16_Find vs ls s (lay w L) (h.sts.lay L))
  unfold IdxPost at HF
  rw [hi] at HF
  have z3 : decide ((86400000 : Int) ≤ wrap64 (b - a)) = false := decide_eq_false (by unfold wrap64; omega)
  have hs2 := isA_list hs
  have hil := (List.getElem?_eq_some_iff.1 hx).1
  obtain ⟨bs, os, cs, rfl, hcs, hbs, hr⟩ := h.sts.open (by omega)
  have r0 : w.cell? ⟨bs, os + i * 4, none⟩ = some (.string x.s) := hr i x hx 0 _ rfl
  have r1 : w.cell? ⟨bs, os + i * 4 + 1, none⟩ = some (.int .i64 x.sha) := hr i x hx 1 _ rfl
  have r2 : w.cell? ⟨bs, os + i * 4 + 2, none⟩ = some (.int .i64 x.dec) := hr i x hx 2 _ rfl
  have r3 : w.cell? ⟨bs, os + i * 4 + 3, none⟩ = some (.int .i64 x.mag) := hr i x hx 3 _ rfl
  have x0 : (0 : Int) ≤ (i : Int) := by omega
  have x1 : (i : Int) < (ls.length : Int) := by omega
  unfold sgL sgH gv
  dsimp only
  clear h ht g1 g2 g3 hs hi hx hr cn cnum cf b1
  generalize [ariesS] ++ tkL lp ++ ls.map StarV.s = T at *
  generalize ls.length = m at *
  generalize agL a b = p at *
  generalize agH a b = q at *
  generalize turnLo (p + (100 * x.sha - 50)) (q + (100 * x.sha + 50)) = t0 at *
  generalize turnHi (p + (100 * x.sha - 50)) (q + (100 * x.sha + 50)) = t1 at *
  obtain ⟨xs, xa, xb, xc⟩ := x
  dsimp only at *
  generalize dcL xb = u0 at *
  generalize dcH xb = u1 at *
  refine lay_start ?_
  go_enter Tryz.func30, Tryz.ntmps30
  go_wp2_with (first | (go_at_call 12; refine (HV.out _).mono ?_; rintro e w' ⟨rfl, dV, rfl⟩))
  refine (HBd.out _).mono ?_
  rintro e w' ⟨vb, dB, rfl, rfl, hO⟩
  rw [lay_bw] at hO ⊢
  obtain ⟨ba, bc, rfl⟩ := hO.form
  have HO := Lib.hid (hO.sl strOk)
  clear hO
  go_wp2_with fail
  refine (HHas.out _ _ HO.out).mono ?_
  rintro e w' ⟨rfl, dH, rfl⟩
  rw [lay_bw]
  go_wp2_with (go_at_call 62; refine (HF.out _).mono ?_; rintro e w' ⟨rfl, dI, rfl⟩)
  refine region_mixS 19 [(0, 0), (1, 0), (2, 0), (3, 0), (4, 0), (5, 0), (6, 0), (7, 0), (8, 0), (9, 0), (10, 0), (11, 0), (12, 0), (13, 0), (14, 0), (15, 0), (16, 0), (17, 0), (18, 0), (19, 3), (20, 2)] (by kernel_rfl) (by kernel_rfl) (by kernel_rfl) rfl ?_
  repeat (first | (refine wpMS_pure rfl (fun K hK => ?_); go_simp; refine hK _ ?_; clear hK K) | (refine wpMS_quiet rfl (fun K hK => ?_); go_simp; first | (refine hK _ ?_; clear hK K) | (apply Exists.intro; refine ⟨fun _ => ?_, hK _ ?_⟩; (first | ((with_reducible refine bq (HI.out _) ?_); exact (fun d => lay_join _ _ _ d)) | ((with_reducible refine bq (HI.out _) ?_); exact (fun d => ⟨d, rfl⟩)) | ((with_reducible refine bq (HA.out _) ?_); exact (fun d => lay_join _ _ _ d)) | ((with_reducible refine bq (HA.out _) ?_); exact (fun d => ⟨d, rfl⟩)) | ((with_reducible refine bq (HS.out _) ?_); exact (fun d => lay_join _ _ _ d)) | ((with_reducible refine bq (HS.out _) ?_); exact (fun d => ⟨d, rfl⟩)) | ((with_reducible refine bq (HT.out _) ?_); exact (fun d => lay_join _ _ _ d)) | ((with_reducible refine bq (HT.out _) ?_); exact (fun d => ⟨d, rfl⟩)) | ((with_reducible refine bq (HD.out _) ?_); exact (fun d => lay_join _ _ _ d)) | ((with_reducible refine bq (HD.out _) ?_); exact (fun d => ⟨d, rfl⟩))); clear hK K)))
  refine wpMS_store rfl (fun K hK e1 => ?_)
  rw [lay_bw]
  go_simp
  refine hK _ _ ?_
  clear hK K
  repeat (first | (refine wpMS_pure rfl (fun K hK => ?_); go_simp; refine hK _ ?_; clear hK K) | (refine wpMS_quiet rfl (fun K hK => ?_); go_simp; first | (refine hK _ ?_; clear hK K) | (apply Exists.intro; refine ⟨fun _ => ?_, hK _ ?_⟩; (first | fail); clear hK K)))
  refine wpMS_nil ?_
  intro d9
  rw [lay_bw]
  go_wp2_with fail
  exact bodyPost_ret (v := .tuple #[(.agg #[.int .i64 (t0), .int .i64 (t1), .int .i64 (u0), .int .i64 (u1), .int .i64 (0), .int .i64 (0), .int .i64 (0), .int .i64 (0)]), .int .i64 0]) (by simp [results, Tryz.results30, go_sem]) rfl ⟨rfl, lay_ex _ _⟩
end Go.Proofs.YthjfadfebhjhbaaGreat

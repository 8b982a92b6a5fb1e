/- Contracts and plain laws, several texts in one: Av7; Sg3; Sg4 -/
import Derived.Test.YtmomoeagnkjbiaaGreatProg
import Derived.WalkKit
import Derived.WalkSpells
import Derived.WalkLawsBesides
import Derived.Lib.Hide
import Derived.BigQuiet
import Derived.Test.YtmomoeagnkjbiaaGreatCAA
import Derived.Test.YtmomoeagnkjbiaaGreatCAB
import Derived.Test.YtmomoeagnkjbiaaGreatCAK
import Derived.Test.YtmomoeagnkjbiaaGreatCAM
/- ratio.Valid; average.Residuals. -/
namespace Go.Proofs.YtmomoeagnkjbiaaGreat
open Go.RowKit

/-- A valid fraction. -/
def fracB (n d : Int) : Bool := decide (1 ≤ d) && (decide (d ≤ 1073741824) && (decide (-1073741824 ≤ n) && (decide (n ≤ 1073741824) && (Nat.gcd n.natAbs d.natAbs == 1))))
theorem fracB_ok {n d : Int} (h : fracB n d = true) : SlOk n d := by
  unfold fracB at h
  simp only [Bool.and_eq_true, decide_eq_true_eq] at h
  exact ⟨h.2.2.1, h.2.2.2.1, h.1, h.2.1⟩
set_option maxHeartbeats 2000000 in
set_option maxRecDepth 100000 in
theorem rt_Valid (n d : Int) (w : World) :
    Calls Tryz.prog 50 #[(.agg #[.int .i64 (n), .int .i64 (d)])] w fun e w' => e = .returned (.bool (fracB n d)) ∧ ∃ d, w' = bw w d := by
  unfold fracB
  by_cases c1 : 1 ≤ d
  · have d1 := decide_eq_true c1
    rw [d1, Bool.true_and]
    by_cases c2 : d ≤ 1073741824
    · have d2 := decide_eq_true c2
      rw [d2, Bool.true_and]
      by_cases c3 : -1073741824 ≤ n
      · have d3 := decide_eq_true c3
        rw [d3, Bool.true_and]
        by_cases c4 : n ≤ 1073741824
        · have d4 := decide_eq_true c4
          rw [d4, Bool.true_and]
          have HA := Lib.hid (fun W => rt_size n W (by omega) (by omega))
          have HB := Lib.hid (fun W => rt_size d W (by omega) (by omega))
          have HG := Lib.hid (fun W => rt_gcd n.natAbs d.natAbs W (by omega) (by omega))
          obtain ⟨g, hg⟩ : ∃ g, Nat.gcd n.natAbs d.natAbs = g := ⟨_, rfl⟩
          rw [hg] at HG
          have e : (Nat.gcd n.natAbs d.natAbs == 1) = ((g : Int) == 1) := by rw [hg, Bool.eq_iff_iff]; simp; omega
          rw [e]
          clear hg e
          generalize n.natAbs = p at *
          generalize d.natAbs = q at *
          refine lay_start ?_
          go_enter Tryz.func50, Tryz.ntmps50
          go_wp2_with fail
          refine region_bw (by kernel_rfl) (by kernel_rfl) ?_
          repeat (go_big_quiet_step ((first | (go_at_call 79; first | (with_reducible refine bq (HA.out _) ?_; exact (fun d => lay_join _ _ _ d)) | (with_reducible refine bq (HB.out _) ?_; exact (fun d => lay_join _ _ _ d))) | (go_at_call 80; exact bq (HG.out _) (fun d => lay_join _ _ _ d)))))
          refine wpQuiet_nil ?_
          rintro w' ⟨d, rfl⟩
          rw [lay_bw]
          go_wp2_with fail
          go_ret
          exact ⟨rfl, lay_ex _ _⟩
        · have d4 := decide_eq_false c4
          rw [d4, Bool.false_and]
          refine lay_start ?_
          go_enter Tryz.func50, Tryz.ntmps50
          go_wp2_with fail
          refine region_bw (by kernel_rfl) (by kernel_rfl) ?_
          repeat (go_big_quiet_step ((first | fail)))
          refine wpQuiet_nil ?_
          rintro w' ⟨d, rfl⟩
          rw [lay_bw]
          go_wp2_with fail
          go_ret
          exact ⟨rfl, lay_ex _ _⟩
      · have d3 := decide_eq_false c3
        rw [d3, Bool.false_and]
        refine lay_start ?_
        go_enter Tryz.func50, Tryz.ntmps50
        go_wp2_with fail
        refine region_bw (by kernel_rfl) (by kernel_rfl) ?_
        repeat (go_big_quiet_step ((first | fail)))
        refine wpQuiet_nil ?_
        rintro w' ⟨d, rfl⟩
        rw [lay_bw]
        go_wp2_with fail
        go_ret
        exact ⟨rfl, lay_ex _ _⟩
    · have d2 := decide_eq_false c2
      rw [d2, Bool.false_and]
      refine lay_start ?_
      go_enter Tryz.func50, Tryz.ntmps50
      go_wp2_with fail
      refine region_bw (by kernel_rfl) (by kernel_rfl) ?_
      repeat (go_big_quiet_step ((first | fail)))
      refine wpQuiet_nil ?_
      rintro w' ⟨d, rfl⟩
      rw [lay_bw]
      go_wp2_with fail
      go_ret
      exact ⟨rfl, lay_ex _ _⟩
  · have d1 := decide_eq_false c1
    rw [d1, Bool.false_and]
    refine lay_start ?_
    go_enter Tryz.func50, Tryz.ntmps50
    go_wp2_with fail
    refine region_bw (by kernel_rfl) (by kernel_rfl) ?_
    repeat (go_big_quiet_step ((first | fail)))
    refine wpQuiet_nil ?_
    rintro w' ⟨d, rfl⟩
    rw [lay_bw]
    go_wp2_with fail
    go_ret
    exact ⟨rfl, lay_ex _ _⟩
/-- The error and the residuals. -/
def rsdE (t h : List Int) (n d : Int) : Int := if fracB n d = false then 1 else if chkE t h ≠ 0 then chkE t h else if slpB n d = false then 2 else 0
def rsdL (t h : List Int) (n d : Int) : List Int := if rsdE t h n d = 0 then resK t h n d t.length else []
theorem rsdL_ne {t h : List Int} {n d : Int} (e : rsdE t h n d ≠ 0) : rsdL t h n d = [] := if_neg e
theorem rsdL_eq {t h : List Int} {n d : Int} (e : rsdE t h n d = 0) : rsdL t h n d = resK t h n d t.length := if_pos e
set_option maxHeartbeats 1000000 in
set_option maxRecDepth 100000 in
theorem av_Residuals (vt vh : Value) (t h : List Int) (n d : Int) (w : World) (ht : Sl w vt t) (hh : Sl w vh h) :
    Calls Tryz.prog 19 #[vt, vh, (.agg #[.int .i64 (n), .int .i64 (d)])] w (RwE w (rsdL t h n d) (rsdE t h n d)) := by
  have HV := Lib.hid (fun W => rt_Valid n d W)
  have HC := Lib.hid (fun W (q1 : Sl W vt t) (q2 : Sl W vh h) => av_check vt vh t h W q1 q2)
  have HT := Lib.hid ht
  have HH := Lib.hid hh
  obtain ⟨a1, c1, hvt, -⟩ := ht
  obtain ⟨a2, c2, hvh, -⟩ := hh
  cases hf : fracB n d
  · rw [hf] at HV
    have he : rsdE t h n d = 1 := if_pos hf
    rw [rsdL_ne (by rw [he]; decide), he]
    subst hvt hvh
    clear hf he
    refine lay_start ?_
    go_enter Tryz.func19, Tryz.ntmps19
    go_wp2_with (go_at_call 50; refine (HV.out _).mono ?_; rintro e w' ⟨rfl, dA, rfl⟩)
    go_ret2
    exact rwe_nil rfl
  · rw [hf] at HV
    have hE : rsdE t h n d = if chkE t h ≠ 0 then chkE t h else if slpB n d = false then 2 else 0 := if_neg (by rw [hf]; decide)
    have hO := fracB_ok hf
    by_cases hc : chkE t h = 0
    · rw [if_neg (fun h => h hc)] at hE
      rw [hc] at HC
      have HS := Lib.hid (fun W => av_slopes n d W hO)
      obtain ⟨hl, h1, hn, bt, bh⟩ := chk_bd hc
      cases hs : slpB n d
      · rw [if_pos hs] at hE
        rw [hs] at HS
        rw [rsdL_ne (by rw [hE]; decide), hE]
        subst hvt hvh
        clear hf hE hs hc bt bh hO hl h1 hn
        refine lay_start ?_
        go_enter Tryz.func19, Tryz.ntmps19
        go_wp2_with (first | (go_at_call 50; refine (HV.out _).mono ?_; rintro e w' ⟨rfl, dA, rfl⟩) | (go_at_call 38; refine (HC.out _ (HT.out.lay _) (HH.out.lay _)).mono ?_; rintro e w' ⟨rfl, dB, rfl⟩) | (go_at_call 42; refine (HS.out _).mono ?_; rintro e w' ⟨rfl, dC, rfl⟩))
        go_ret2
        exact rwe_nil rfl
      · rw [if_neg (by rw [hs]; decide)] at hE
        rw [hs] at HS
        rw [rsdL_eq hE, hE]
        have HR := Lib.hid (fun W (q1 : Sl W vt t) (q2 : Sl W vh h) => av_residuals vt vh t h n d W q1 q2 hl h1 (by omega) (fun i hi => by have := bt i hi; omega) (fun i hi => by have := bh i hi; omega) hO)
        generalize resK t h n d t.length = RES at *
        subst hvt hvh
        clear hf hE hs hc bt bh hO hl h1 hn
        refine lay_start ?_
        go_enter Tryz.func19, Tryz.ntmps19
        go_wp2_with (first | (go_at_call 50; refine (HV.out _).mono ?_; rintro e w' ⟨rfl, dA, rfl⟩) | (go_at_call 38; refine (HC.out _ (HT.out.lay _) (HH.out.lay _)).mono ?_; rintro e w' ⟨rfl, dB, rfl⟩) | (go_at_call 42; refine (HS.out _).mono ?_; rintro e w' ⟨rfl, dC, rfl⟩))
        refine (HR.out _ (HT.out.lay _) (HH.out.lay _)).mono ?_
        rintro e w' ⟨v, dD, rfl, rfl, hv⟩
        rw [lay_bw] at hv ⊢
        have HV2 := Lib.hid hv
        clear hv
        go_wp2_with fail
        go_ret2
        obtain ⟨y, hy⟩ := lay_ex w [.inr dD, .inr dC, .inr dB, .inr dA, .inl (.cells #[.int .i64 n, .int .i64 d] 26 (0, 0))]
        exact ⟨_, y, rfl, hy, by rw [← hy]; exact HV2.out.le (lay_below (w := w) (A := [.inr dC, .inr dB, .inr dA, .inl (.cells #[.int .i64 n, .int .i64 d] 26 (0, 0))]) (B := [])).size⟩
    · rw [if_pos hc] at hE
      rw [rsdL_ne (by rw [hE]; exact hc), hE]
      have t1 : (chkE t h == 0) = false := beq_eq_false_iff_ne.2 hc
      have t2 : (chkE t h != 0) = true := by rw [bne, t1]; rfl
      subst hvt hvh
      clear hf hE hO hc
      generalize chkE t h = E at *
      refine lay_start ?_
      go_enter Tryz.func19, Tryz.ntmps19
      go_wp2_with (first | (go_at_call 50; refine (HV.out _).mono ?_; rintro e w' ⟨rfl, dA, rfl⟩) | (go_at_call 38; refine (HC.out _ (HT.out.lay _) (HH.out.lay _)).mono ?_; rintro e w' ⟨rfl, dB, rfl⟩))
      go_ret2
      exact rwe_nil rfl
end Go.Proofs.YtmomoeagnkjbiaaGreat
/- average.given: its closures. -/
namespace Go.Proofs.YtmomoeagnkjbiaaGreat
open Go.RowKit

set_option maxRecDepth 100000 in
theorem giv1 (s : SgV) (w : World) (hs : SgOk s) :
    Calls Tryz.prog 96 #[s.val] w fun e w' => e = .returned (.bool (!sgB s)) ∧ ∃ d, w' = bw w d := by
  have HV : Hid (∀ W, Calls Tryz.prog 25 #[.agg #[.string s.body, .int .i64 s.limb, .int .i64 s.lo, .int .i64 s.hi, .int .i64 s.hs, .int .i64 s.wi, .int .i64 s.hz, .int .i64 s.ey, .int .i64 s.sh, .int .i64 s.te, .int .i64 s.pr]] W fun e w' => e = .returned (.bool (sgB s)) ∧ ∃ d, w' = bw W d) := Lib.hid fun W => cor_Valid s W hs
  rw [sg_val]
  generalize sgB s = r at *
  clear hs
  obtain ⟨body, limb, lo, hi, hs, wi, hz, ey, sh, te, pr⟩ := s
  dsimp only at *
  refine lay_start ?_
  go_enter Tryz.func96, Tryz.ntmps96
  go_wp2_with (go_at_call 25; refine (HV.out _).mono ?_; rintro e w' ⟨rfl, d, rfl⟩)
  go_ret
  exact ⟨rfl, lay_ex _ _⟩
/-- The cells of the first sight. -/
structure Fst (W : World) (b o : Nat) (s : SgV) : Prop where
  c0 : W.cell? ⟨b, o, none⟩ = some (.string s.body)
  c1 : W.cell? ⟨b, o + 1, none⟩ = some (.int .i64 s.limb)
  c2 : W.cell? ⟨b, o + 2, none⟩ = some (.int .i64 s.lo)
  c3 : W.cell? ⟨b, o + 3, none⟩ = some (.int .i64 s.hi)
  c4 : W.cell? ⟨b, o + 4, none⟩ = some (.int .i64 s.hs)
  c5 : W.cell? ⟨b, o + 5, none⟩ = some (.int .i64 s.wi)
  c6 : W.cell? ⟨b, o + 6, none⟩ = some (.int .i64 s.hz)
  c7 : W.cell? ⟨b, o + 7, none⟩ = some (.int .i64 s.ey)
  c8 : W.cell? ⟨b, o + 8, none⟩ = some (.int .i64 s.sh)
  c9 : W.cell? ⟨b, o + 9, none⟩ = some (.int .i64 s.te)
  c10 : W.cell? ⟨b, o + 10, none⟩ = some (.int .i64 s.pr)
theorem Fst.of {W : World} {v : Value} {l : List SgV} {s : SgV} (h : SlG sgR W v l) (h0 : l[0]? = some s) :
    ∃ b o cap, v = .slice (some ⟨b, o, none⟩) l.length cap ∧ 1 ≤ l.length ∧ (l.length ≤ cap ∧ cap ≤ 9223372036854775807) ∧ b < W.heap.size ∧ Fst W b o s := by
  have hl := (List.getElem?_eq_some_iff.1 h0).1
  obtain ⟨b, o, cap, rfl, hc, hb, hr⟩ := h.open hl
  have g := fun j u (hu : s.cells[j]? = some u) => hr 0 s h0 j u hu
  simp only [Nat.zero_mul, Nat.zero_add] at g
  exact ⟨b, o, cap, rfl, hl, hc, hb, ⟨g 0 _ rfl, g 1 _ rfl, g 2 _ rfl, g 3 _ rfl, g 4 _ rfl, g 5 _ rfl, g 6 _ rfl, g 7 _ rfl, g 8 _ rfl, g 9 _ rfl, g 10 _ rfl⟩⟩
set_option maxHeartbeats 1000000 in
set_option maxRecDepth 100000 in
theorem giv2 (s s0 : SgV) (l : List SgV) (v : Value) (bx : Nat) (w : World) (hx : bx < w.heap.size) (hc : w.cell? ⟨bx, 0, none⟩ = some v) (hl : SlG sgR w v l) (h0 : l[0]? = some s0) :
    Calls Tryz.prog 97 #[s.val, .pointer (some ⟨bx, 0, none⟩)] w fun e w' => e = .returned (.bool (!likB s s0)) ∧ ∃ d, w' = bw w d := by
  obtain ⟨b, o, cap, rfl, h1, hcp, hb, hF⟩ := Fst.of hl h0
  obtain ⟨c0, c1, c2, c3, c4, c5, c6, c7, c8, c9, c10⟩ := hF
  have HV : Hid (∀ W, Calls Tryz.prog 98 #[.agg #[.string s.body, .int .i64 s.limb, .int .i64 s.lo, .int .i64 s.hi, .int .i64 s.hs, .int .i64 s.wi, .int .i64 s.hz, .int .i64 s.ey, .int .i64 s.sh, .int .i64 s.te, .int .i64 s.pr], .agg #[.string s0.body, .int .i64 s0.limb, .int .i64 s0.lo, .int .i64 s0.hi, .int .i64 s0.hs, .int .i64 s0.wi, .int .i64 s0.hz, .int .i64 s0.ey, .int .i64 s0.sh, .int .i64 s0.te, .int .i64 s0.pr]] W fun e w' => e = .returned (.bool (likB s s0)) ∧ ∃ d, w' = bw W d) := Lib.hid fun W => av_like s s0 W
  rw [sg_val]
  generalize likB s s0 = r at *
  generalize l.length = m at *
  clear hl h0
  obtain ⟨body, limb, lo, hi, hs, wi, hz, ey, sh, te, pr⟩ := s
  obtain ⟨q0, q1, q2, q3, q4, q5, q6, q7, q8, q9, q10⟩ := s0
  dsimp only at *
  have y1 : (0 : Int) < (m : Int) := by omega
  refine lay_start ?_
  go_enter Tryz.func97, Tryz.ntmps97
  go_wp2_with fail
  refine region_bw (by kernel_rfl) (by kernel_rfl) ?_
  repeat (go_big_quiet_step ((first | (go_at_call 98; exact bq (HV.out _) (fun d => lay_join _ _ _ d)))))
  refine wpQuiet_nil ?_
  rintro w' ⟨d, rfl⟩
  rw [lay_bw]
  go_wp2_with fail
  go_ret
  exact ⟨rfl, lay_ex _ _⟩
set_option maxHeartbeats 1000000 in
set_option maxRecDepth 100000 in
theorem giv3 (s s0 : SgV) (l : List SgV) (v : Value) (bx : Nat) (w : World) (hx : bx < w.heap.size) (hc : w.cell? ⟨bx, 0, none⟩ = some v) (hl : SlG sgR w v l) (h0 : l[0]? = some s0) (t1 : SgT s) (t2 : SgT s0) :
    Calls Tryz.prog 99 #[s.val, .pointer (some ⟨bx, 0, none⟩)] w fun e w' => e = .returned (.bool (decide (86400000 < max (midI s - midI s0) (-(midI s - midI s0))))) ∧ ∃ d, w' = bw w d := by
  obtain ⟨b, o, cap, rfl, h1, hcp, hb, hF⟩ := Fst.of hl h0
  obtain ⟨c0, c1, c2, c3, c4, c5, c6, c7, c8, c9, c10⟩ := hF
  have m1 := t1.mid
  have m2 := t2.mid
  have HA : Hid (∀ W, Calls Tryz.prog 54 #[.agg #[.string s.body, .int .i64 s.limb, .int .i64 s.lo, .int .i64 s.hi, .int .i64 s.hs, .int .i64 s.wi, .int .i64 s.hz, .int .i64 s.ey, .int .i64 s.sh, .int .i64 s.te, .int .i64 s.pr]] W fun e w' => e = .returned (.int .i64 (midI s)) ∧ ∃ d, w' = bw W d) := Lib.hid fun W => av_middle s W t1
  have HB : Hid (∀ W, Calls Tryz.prog 54 #[.agg #[.string s0.body, .int .i64 s0.limb, .int .i64 s0.lo, .int .i64 s0.hi, .int .i64 s0.hs, .int .i64 s0.wi, .int .i64 s0.hz, .int .i64 s0.ey, .int .i64 s0.sh, .int .i64 s0.te, .int .i64 s0.pr]] W fun e w' => e = .returned (.int .i64 (midI s0)) ∧ ∃ d, w' = bw W d) := Lib.hid fun W => av_middle s0 W t2
  rw [sg_val]
  generalize midI s = M at *
  generalize midI s0 = M0 at *
  have k1 : IntKind.i64.wrap (M - M0) = M - M0 := IntWalk.i64_in _ (by omega)
  have HS := Lib.hid (fun W => av_size (M - M0) W (by omega) (by omega))
  generalize max (M - M0) (-(M - M0)) = D at *
  generalize l.length = m at *
  clear hl h0 t1 t2 m1 m2
  obtain ⟨body, limb, lo, hi, hs, wi, hz, ey, sh, te, pr⟩ := s
  obtain ⟨q0, q1, q2, q3, q4, q5, q6, q7, q8, q9, q10⟩ := s0
  dsimp only at *
  have y1 : (0 : Int) < (m : Int) := by omega
  refine lay_start ?_
  go_enter Tryz.func99, Tryz.ntmps99
  go_wp2_with fail
  refine region_bw (by kernel_rfl) (by kernel_rfl) ?_
  repeat (go_big_quiet_step ((first | (go_at_call 54; first | (with_reducible refine bq (HA.out _) ?_; exact (fun d => lay_join _ _ _ d)) | (with_reducible refine bq (HB.out _) ?_; exact (fun d => lay_join _ _ _ d))) | (go_at_call 67; exact bq (HS.out _) (fun d => lay_join _ _ _ d)))))
  refine wpQuiet_nil ?_
  rintro w' ⟨d, rfl⟩
  rw [lay_bw]
  go_wp2_with fail
  go_ret
  exact ⟨rfl, lay_ex _ _⟩
end Go.Proofs.YtmomoeagnkjbiaaGreat
/- average.given. -/
namespace Go.Proofs.YtmomoeagnkjbiaaGreat
open Go.RowKit

instance : Inhabited SgV := ⟨⟨⟨#[]⟩, 0, 0, 0, 0, 0, 0, 0, 0, 0, 0⟩⟩
def fstS (l : List SgV) : SgV := l[0]?.getD default
def farS (l : List SgV) (s : SgV) : Bool := decide (86400000 < max (midI s - midI (fstS l)) (-(midI s - midI (fstS l))))
/-- The error of sights, a slope, and a factor. -/
noncomputable def gvnE (l : List SgV) (n d f : Int) : Int :=
  if (l.any fun s => !sgB s) = true ∨ fracB n d = false then 1 else if l.length < 1 ∨ 40 < l.length then 3
  else if slpB n d = false ∨ f < 1 ∨ 100 < f then 2 else if (l.any fun s => !likB s (fstS l)) = true then 11
  else if (l.any fun s => farS l s) = true then 20 else 0
theorem box_cell2 {W : World} {p : Nat} {v : Value} {te : TypeId} (h : W.heap[p]? = some (.cells #[v] te (0, 0))) (d : Ext) : p < (bw W d).heap.size ∧ (bw W d).cell? ⟨p, 0, none⟩ = some v := by
  have h1 := (Array.getElem?_eq_some_iff.1 h).1
  refine ⟨Nat.lt_of_lt_of_le h1 (bw_le W d), ?_⟩
  rw [bw_cell _ _ _ _ h1]
  simp [World.cell?, h]
theorem sg_tm {s : SgV} (h : sgB s = true) : SgT s := by
  have := timB_iff.1 (by unfold sgB at h; simp only [Bool.and_eq_true] at h; exact h.2.2.1)
  exact ⟨this.2.1, this.1, this.2.2⟩
theorem all_of_any {l : List SgV} (h : (l.any fun s => !sgB s) = false) : ∀ s ∈ l, sgB s = true := by
  intro s hs
  have := List.any_eq_false.1 h s hs
  simpa using this
set_option maxHeartbeats 4000000 in
set_option maxRecDepth 100000 in
theorem av_given (v : Value) (l : List SgV) (n d f : Int) (w : World) (hl : SlG sgR w v l) :
    Calls Tryz.prog 53 #[v, (.agg #[.int .i64 (n), .int .i64 (d)]), .int .i64 f] w fun e w' => e = .returned (.int .i64 (gvnE l n d f)) ∧ ∃ d, w' = bw w d := by
  have e1 : ∀ args w, (callFunc 96 args).run Tryz.prog w = .ok (.enter 96 args) w := enters_of Tryz.func96 (by kernel_rfl) rfl
  have e2 : ∀ args w, (callFunc 97 args).run Tryz.prog w = .ok (.enter 97 args) w := enters_of Tryz.func97 (by kernel_rfl) rfl
  have e3 : ∀ args w, (callFunc 99 args).run Tryz.prog w = .ok (.enter 99 args) w := enters_of Tryz.func99 (by kernel_rfl) rfl
  have HC1 : Hid (∀ W (_ : SlG sgR W v l), Calls Tryz.prog 51 #[v, .func (.func 96) #[] #[]] W fun e w' => e = .returned (.bool (l.any fun s => !sgB s)) ∧ ∃ d, w' = bw W d) := Lib.hid (fun W (q : SlG sgR W v l) => sg_ContainsFunc 96 [] (fun s => !sgB s) v l W q e1 (fun x hx d => (giv1 x (bw W d) (q.wf x hx)).mono fun e w' ⟨k1, y, k2⟩ => ⟨k1, _, k2.trans (bw_bw _ _ _)⟩))
  have HV := Lib.hid (fun W => rt_Valid n d W)
  have HL := Lib.hid hl
  cases ha : l.any fun s => !sgB s
  · rw [ha] at HC1
    have hall := all_of_any ha
    cases hf : fracB n d
    · rw [hf] at HV
      rw [show gvnE l n d f = 1 from if_pos (.inr hf)]
      obtain ⟨a, cap, rfl⟩ := hl.form
      clear hl hall ha hf
      refine lay_start ?_
      go_enter Tryz.func53, Tryz.ntmps53
      go_wp2_with (first | (go_at_call 51; first | (with_reducible refine (HC1.out _ (HL.out.lay _)).mono ?_; rintro e w' ⟨rfl, dC, rfl⟩; rw [lay_bw])) | (go_at_call 50; refine (HV.out _).mono ?_; rintro e w' ⟨rfl, dV, rfl⟩; rw [lay_bw]) | (go_at_call 42; refine (HS.out _).mono ?_; rintro e w' ⟨rfl, dS, rfl⟩; rw [lay_bw]))
      go_ret
      exact ⟨rfl, lay_ex _ _⟩
    · rw [hf] at HV
      have hE : gvnE l n d f = if l.length < 1 ∨ 40 < l.length then 3 else if slpB n d = false ∨ f < 1 ∨ 100 < f then 2 else if (l.any fun s => !likB s (fstS l)) = true then 11 else if (l.any fun s => farS l s) = true then 20 else 0 := by
        unfold gvnE
        rw [if_neg (by rw [ha, hf]; decide)]
      have HS := Lib.hid (fun W => av_slopes n d W (fracB_ok hf))
      by_cases c1 : l.length < 1
      · rw [hE, if_pos (.inl c1)]
        obtain ⟨a, cap, rfl⟩ := hl.form
        have c1' : (l.length : Int) < 1 := by omega
        clear hl hall ha hf hE
        refine lay_start ?_
        go_enter Tryz.func53, Tryz.ntmps53
        go_wp2_with (first | (go_at_call 51; first | (with_reducible refine (HC1.out _ (HL.out.lay _)).mono ?_; rintro e w' ⟨rfl, dC, rfl⟩; rw [lay_bw])) | (go_at_call 50; refine (HV.out _).mono ?_; rintro e w' ⟨rfl, dV, rfl⟩; rw [lay_bw]) | (go_at_call 42; refine (HS.out _).mono ?_; rintro e w' ⟨rfl, dS, rfl⟩; rw [lay_bw]))
        go_ret
        exact ⟨rfl, lay_ex _ _⟩
      · have c1' : ¬ (l.length : Int) < 1 := by omega
        have q1 : decide ((l.length : Int) < 1) = false := decide_eq_false c1'
        by_cases c2 : 40 < l.length
        · rw [hE, if_pos (.inr c2)]
          obtain ⟨a, cap, rfl⟩ := hl.form
          have c2' : (40 : Int) < (l.length : Int) := by omega
          have q2 : decide ((40 : Int) < (l.length : Int)) = true := decide_eq_true c2'
          clear hl hall ha hf hE
          refine lay_start ?_
          go_enter Tryz.func53, Tryz.ntmps53
          go_wp2_with (first | (go_at_call 51; first | (with_reducible refine (HC1.out _ (HL.out.lay _)).mono ?_; rintro e w' ⟨rfl, dC, rfl⟩; rw [lay_bw])) | (go_at_call 50; refine (HV.out _).mono ?_; rintro e w' ⟨rfl, dV, rfl⟩; rw [lay_bw]) | (go_at_call 42; refine (HS.out _).mono ?_; rintro e w' ⟨rfl, dS, rfl⟩; rw [lay_bw]))
          go_ret
          exact ⟨rfl, lay_ex _ _⟩
        · rw [if_neg (by omega)] at hE
          have c2' : ¬ (40 : Int) < (l.length : Int) := by omega
          have q2 : decide ((40 : Int) < (l.length : Int)) = false := decide_eq_false c2'
          have h0 : l[0]? = some (fstS l) := by
            unfold fstS
            rw [List.getElem?_eq_getElem (by omega)]; rfl
          cases hs : slpB n d
          · rw [hE, if_pos (.inl hs)]
            rw [hs] at HS
            obtain ⟨a, cap, rfl⟩ := hl.form
            clear hl hall ha hf hE h0 hs
            refine lay_start ?_
            go_enter Tryz.func53, Tryz.ntmps53
            go_wp2_with (first | (go_at_call 51; first | (with_reducible refine (HC1.out _ (HL.out.lay _)).mono ?_; rintro e w' ⟨rfl, dC, rfl⟩; rw [lay_bw])) | (go_at_call 50; refine (HV.out _).mono ?_; rintro e w' ⟨rfl, dV, rfl⟩; rw [lay_bw]) | (go_at_call 42; refine (HS.out _).mono ?_; rintro e w' ⟨rfl, dS, rfl⟩; rw [lay_bw]))
            go_ret
            exact ⟨rfl, lay_ex _ _⟩
          · rw [hs] at HS
            by_cases c3 : f < 1
            · rw [hE, if_pos (.inr (.inl c3))]
              obtain ⟨a, cap, rfl⟩ := hl.form
              have q3 := decide_eq_true c3
              clear hl hall ha hf hE h0 hs
              refine lay_start ?_
              go_enter Tryz.func53, Tryz.ntmps53
              go_wp2_with (first | (go_at_call 51; first | (with_reducible refine (HC1.out _ (HL.out.lay _)).mono ?_; rintro e w' ⟨rfl, dC, rfl⟩; rw [lay_bw])) | (go_at_call 50; refine (HV.out _).mono ?_; rintro e w' ⟨rfl, dV, rfl⟩; rw [lay_bw]) | (go_at_call 42; refine (HS.out _).mono ?_; rintro e w' ⟨rfl, dS, rfl⟩; rw [lay_bw]))
              go_ret
              exact ⟨rfl, lay_ex _ _⟩
            · have q3 := decide_eq_false c3
              by_cases c4 : 100 < f
              · rw [hE, if_pos (.inr (.inr c4))]
                obtain ⟨a, cap, rfl⟩ := hl.form
                have q4 := decide_eq_true c4
                clear hl hall ha hf hE h0 hs
                refine lay_start ?_
                go_enter Tryz.func53, Tryz.ntmps53
                go_wp2_with (first | (go_at_call 51; first | (with_reducible refine (HC1.out _ (HL.out.lay _)).mono ?_; rintro e w' ⟨rfl, dC, rfl⟩; rw [lay_bw])) | (go_at_call 50; refine (HV.out _).mono ?_; rintro e w' ⟨rfl, dV, rfl⟩; rw [lay_bw]) | (go_at_call 42; refine (HS.out _).mono ?_; rintro e w' ⟨rfl, dS, rfl⟩; rw [lay_bw]))
                go_ret
                exact ⟨rfl, lay_ex _ _⟩
              · have q4 := decide_eq_false c4
                rw [if_neg (by rw [hs]; simp; omega)] at hE
                have HC2 : Hid (∀ W (_ : W.heap[posn w []]? = some (.cells #[v] 53 (0, 0))) (_ : SlG sgR W v l), Calls Tryz.prog 51 #[v, .func (.func 97) #[] #[.pointer (some ⟨posn w [], 0, none⟩)]] W fun e w' => e = .returned (.bool (l.any fun s => !likB s (fstS l))) ∧ ∃ d, w' = bw W d) := Lib.hid (fun W (hb : W.heap[posn w []]? = some (.cells #[v] 53 (0, 0))) (q : SlG sgR W v l) => sg_ContainsFunc 97 [.pointer (some ⟨posn w [], 0, none⟩)] (fun s => !likB s (fstS l)) v l W q e2 (fun x hx d => (giv2 x (fstS l) l v (posn w []) (bw W d) (box_cell2 hb d).1 (box_cell2 hb d).2 (q.bw d) h0).mono fun e w' ⟨k1, y, k2⟩ => ⟨k1, _, k2.trans (bw_bw _ _ _)⟩))
                cases hk : l.any fun s => !likB s (fstS l)
                · rw [hk] at HC2
                  rw [if_neg (by rw [hk]; decide)] at hE
                  have hf0 : SgT (fstS l) := sg_tm (hall _ (List.mem_of_getElem? h0))
                  have HC3 : Hid (∀ W (_ : W.heap[posn w []]? = some (.cells #[v] 53 (0, 0))) (_ : SlG sgR W v l), Calls Tryz.prog 51 #[v, .func (.func 99) #[] #[.pointer (some ⟨posn w [], 0, none⟩)]] W fun e w' => e = .returned (.bool (l.any fun s => farS l s)) ∧ ∃ d, w' = bw W d) := Lib.hid (fun W (hb : W.heap[posn w []]? = some (.cells #[v] 53 (0, 0))) (q : SlG sgR W v l) => sg_ContainsFunc 99 [.pointer (some ⟨posn w [], 0, none⟩)] (fun s => farS l s) v l W q e3 (fun x hx d => (giv3 x (fstS l) l v (posn w []) (bw W d) (box_cell2 hb d).1 (box_cell2 hb d).2 (q.bw d) h0 (sg_tm (hall x hx)) hf0).mono fun e w' ⟨k1, y, k2⟩ => ⟨k1, _, k2.trans (bw_bw _ _ _)⟩))
                  cases hw : l.any fun s => farS l s
                  · rw [hw] at HC3
                    rw [hE, if_neg (by rw [hw]; decide)]
                    obtain ⟨a, cap, rfl⟩ := hl.form
                    clear hl hall ha hf hE h0 hs hk hw hf0
                    refine lay_start ?_
                    go_enter Tryz.func53, Tryz.ntmps53
                    go_wp2_with (first | (go_at_call 51; first | (with_reducible refine (HC1.out _ (HL.out.lay _)).mono ?_; rintro e w' ⟨rfl, dC, rfl⟩; rw [lay_bw]) | ((with_reducible refine Calls.mono (HC2.out _ ?_ (HL.out.lay _)) ?_); exact lay_get w [.inr dS, .inr dV, .inr dC, .inl _, .inl _] 4 _ rfl; rintro e w' ⟨rfl, dD, rfl⟩; rw [lay_bw]) | ((with_reducible refine Calls.mono (HC3.out _ ?_ (HL.out.lay _)) ?_); exact lay_get w [.inr dD, .inr dS, .inr dV, .inr dC, .inl _, .inl _] 5 _ rfl; rintro e w' ⟨rfl, dE, rfl⟩; rw [lay_bw])) | (go_at_call 50; refine (HV.out _).mono ?_; rintro e w' ⟨rfl, dV, rfl⟩; rw [lay_bw]) | (go_at_call 42; refine (HS.out _).mono ?_; rintro e w' ⟨rfl, dS, rfl⟩; rw [lay_bw]))
                    go_ret
                    exact ⟨rfl, lay_ex _ _⟩
                  · rw [hw] at HC3
                    rw [hE, if_pos hw]
                    obtain ⟨a, cap, rfl⟩ := hl.form
                    clear hl hall ha hf hE h0 hs hk hw hf0
                    refine lay_start ?_
                    go_enter Tryz.func53, Tryz.ntmps53
                    go_wp2_with (first | (go_at_call 51; first | (with_reducible refine (HC1.out _ (HL.out.lay _)).mono ?_; rintro e w' ⟨rfl, dC, rfl⟩; rw [lay_bw]) | ((with_reducible refine Calls.mono (HC2.out _ ?_ (HL.out.lay _)) ?_); exact lay_get w [.inr dS, .inr dV, .inr dC, .inl _, .inl _] 4 _ rfl; rintro e w' ⟨rfl, dD, rfl⟩; rw [lay_bw]) | ((with_reducible refine Calls.mono (HC3.out _ ?_ (HL.out.lay _)) ?_); exact lay_get w [.inr dD, .inr dS, .inr dV, .inr dC, .inl _, .inl _] 5 _ rfl; rintro e w' ⟨rfl, dE, rfl⟩; rw [lay_bw])) | (go_at_call 50; refine (HV.out _).mono ?_; rintro e w' ⟨rfl, dV, rfl⟩; rw [lay_bw]) | (go_at_call 42; refine (HS.out _).mono ?_; rintro e w' ⟨rfl, dS, rfl⟩; rw [lay_bw]))
                    go_ret
                    exact ⟨rfl, lay_ex _ _⟩
                · rw [hk] at HC2
                  rw [hE, if_pos hk]
                  obtain ⟨a, cap, rfl⟩ := hl.form
                  clear hl hall ha hf hE h0 hs hk
                  refine lay_start ?_
                  go_enter Tryz.func53, Tryz.ntmps53
                  go_wp2_with (first | (go_at_call 51; first | (with_reducible refine (HC1.out _ (HL.out.lay _)).mono ?_; rintro e w' ⟨rfl, dC, rfl⟩; rw [lay_bw]) | ((with_reducible refine Calls.mono (HC2.out _ ?_ (HL.out.lay _)) ?_); exact lay_get w [.inr dS, .inr dV, .inr dC, .inl _, .inl _] 4 _ rfl; rintro e w' ⟨rfl, dD, rfl⟩; rw [lay_bw])) | (go_at_call 50; refine (HV.out _).mono ?_; rintro e w' ⟨rfl, dV, rfl⟩; rw [lay_bw]) | (go_at_call 42; refine (HS.out _).mono ?_; rintro e w' ⟨rfl, dS, rfl⟩; rw [lay_bw]))
                  go_ret
                  exact ⟨rfl, lay_ex _ _⟩
  · rw [ha] at HC1
    rw [show gvnE l n d f = 1 from if_pos (.inl ha)]
    obtain ⟨a, cap, rfl⟩ := hl.form
    clear hl ha
    refine lay_start ?_
    go_enter Tryz.func53, Tryz.ntmps53
    go_wp2_with (first | (go_at_call 51; first | (with_reducible refine (HC1.out _ (HL.out.lay _)).mono ?_; rintro e w' ⟨rfl, dC, rfl⟩; rw [lay_bw])) | (go_at_call 50; refine (HV.out _).mono ?_; rintro e w' ⟨rfl, dV, rfl⟩; rw [lay_bw]) | (go_at_call 42; refine (HS.out _).mono ?_; rintro e w' ⟨rfl, dS, rfl⟩; rw [lay_bw]))
    go_ret
    exact ⟨rfl, lay_ex _ _⟩
end Go.Proofs.YtmomoeagnkjbiaaGreat

/- Contracts and plain laws, several texts in one: HxA -/
import Derived.Test.YthjfadfebhjhbaaGreatProg
import Derived.WalkKit
import Derived.WalkSpells
import Derived.WalkLawsBesides
import Derived.Lib.Hide
import Derived.BigQuiet
import Derived.Test.YthjfadfebhjhbaaGreatQAA
import Derived.Test.YthjfadfebhjhbaaGreatQAB
import Derived.Test.YthjfadfebhjhbaaGreatQBS
/- The first crossing of a direction; the error number of a day. -/
namespace Go.Proofs.YthjfadfebhjhbaaGreat
open Go.RowKit Go.Shelf

set_option maxHeartbeats 1000000 in
theorem hz_here_nil (u x : Int) (w : World) :
    Calls Tryz.prog 36 #[.pointer none, (.agg #[.int .i64 (u), .int .i64 (x)])] w fun e w' => e = .returned (.tuple #[(.agg #[.int .i64 (0), .int .i64 (0), .int .i64 (0), .int .i64 (0)]), .int .i64 1]) ∧ ∃ d, w' = bw w d := by
  refine lay_start ?_
  go_enter Tryz.func36, Tryz.ntmps36
  go_wp2_with fail
  exact bodyPost_ret (v := .tuple #[(.agg #[.int .i64 (0), .int .i64 (0), .int .i64 (0), .int .i64 (0)]), .int .i64 1]) (by simp [results, Tryz.results36, go_sem]) rfl ⟨rfl, lay_ex _ _⟩
set_option maxHeartbeats 1000000 in
theorem hz_limits (w : World) :
    Calls Tryz.prog 38 #[] w fun e w' => e = .returned (.agg #[.int .i64 (-50000), .int .i64 (-360000), .int .i64 (-720000), .int .i64 (-1080000)]) ∧ ∃ d, w' = bw w d := by
  refine lay_start ?_
  go_enter Tryz.func38, Tryz.ntmps38
  go_wp2_with fail
  exact bodyPost_ret (v := (.agg #[.int .i64 (-50000), .int .i64 (-360000), .int .i64 (-720000), .int .i64 (-1080000)])) (by simp [results, Tryz.results38, go_sem]) rfl ⟨rfl, lay_ex _ _⟩
set_option maxHeartbeats 1000000 in
theorem r50_Limits (w : World) :
    Calls Tryz.prog 48 #[] w fun e w' => e = .returned (.slice (some ⟨posn w [], 0, none⟩) 4 4) ∧ w' = lay w [.inl (.cells #[.int .i64 (-50000), .int .i64 (-360000), .int .i64 (-720000), .int .i64 (-1080000)] 3 (0, 0))] := by
  refine lay_start ?_
  go_enter Tryz.func48, Tryz.ntmps48
  go_wp2_with fail
  go_ret
  exact ⟨rfl, rfl⟩
theorem r50_LimitsL (w : World) (L : List (Obj ⊕ Ext)) :
    Calls Tryz.prog 48 #[] (lay w L) fun e w' => e = .returned (.slice (some ⟨posn w (shp L), 0, none⟩) 4 4) ∧ w' = lay w (.inl (.cells #[.int .i64 (-50000), .int .i64 (-360000), .int .i64 (-720000), .int .i64 (-1080000)] 3 (0, 0)) :: L) := by
  refine (r50_Limits (lay w L)).mono fun e w' ⟨h1, h2⟩ => ⟨?_, h2⟩
  rw [h1]
  have : posn (lay w L) [] = posn w (shp L) := by rw [← lay_size]; rfl
  rw [this]
def wyF : List CrV → Bool → Option CrV
  | [], _ => none
  | c :: l, up => if c.up = up then some c else wyF l up
def wyL (l : List CrV) (up : Bool) : Int := match wyF l up with | some c => c.lo | none => 0
def wyH (l : List CrV) (up : Bool) : Int := match wyF l up with | some c => c.hi | none => 0
def wyB (l : List CrV) (up : Bool) : Bool := (wyF l up).isSome
theorem wy_some {l : List CrV} {up : Bool} {c : CrV} (h : wyF l up = some c) : wyL l up = c.lo ∧ wyH l up = c.hi ∧ wyB l up = true := by unfold wyL wyH wyB; rw [h]; exact ⟨rfl, rfl, rfl⟩
theorem wy_none {l : List CrV} {up : Bool} (h : wyF l up = none) : wyL l up = 0 ∧ wyH l up = 0 ∧ wyB l up = false := by unfold wyL wyH wyB; rw [h]; exact ⟨rfl, rfl, rfl⟩
theorem wy_drop {l : List CrV} {i : Nat} {z : CrV} (hz : l[i]? = some z) : l.drop i = z :: l.drop (i + 1) := by
  obtain ⟨hi, e⟩ := List.getElem?_eq_some_iff.1 hz
  rw [List.drop_eq_getElem_cons hi, e]
theorem wy_yes {l : List CrV} {up : Bool} {i : Nat} {z : CrV} (hz : l[i]? = some z) (h : wyF (l.drop i) up = wyF l up) (c : z.up = up) : wyF l up = some z := by
  rw [← h, wy_drop hz]
  exact if_pos c
theorem wy_no {l : List CrV} {up : Bool} {i : Nat} {z : CrV} (hz : l[i]? = some z) (h : wyF (l.drop i) up = wyF l up) (c : ¬ z.up = up) : wyF (l.drop (i + 1)) up = wyF l up := by
  rw [← h, wy_drop hz]
  exact (if_neg c).symm
set_option maxHeartbeats 4000000 in
set_option maxRecDepth 100000 in
theorem hz_first (v : Value) (l : List CrV) (up : Bool) (w : World) (h : SlG crR w v l) (hl : l.length ≤ 145) :
    Calls Tryz.prog 55 #[v, .bool up] w fun e w' => e = .returned (.tuple #[(.agg #[.int .i64 (wyL l up), .int .i64 (wyH l up)]), .bool (wyB l up)]) ∧ ∃ d, w' = bw w d := by
  obtain ⟨va, vc, rfl, hcap, -, hopen⟩ := h
  obtain ⟨N, hN⟩ : ∃ N, l.length = N := ⟨_, rfl⟩
  rw [hN] at hcap hl ⊢
  have HR : Hid (∀ i c, l[i]? = some c → ∃ b o, va = some ⟨b, o, none⟩ ∧ b < w.heap.size ∧ w.cell? ⟨b, o + i * 3, none⟩ = some (.int .i64 c.lo) ∧ w.cell? ⟨b, o + i * 3 + 1, none⟩ = some (.int .i64 c.hi) ∧ w.cell? ⟨b, o + i * 3 + 2, none⟩ = some (.bool c.up)) := Lib.hid (fun i c hc => by
    obtain ⟨b, o, e, hb, hr⟩ := hopen (by rintro rfl; simp at hc)
    exact ⟨b, o, e, hb, hr i c hc 0 _ rfl, hr i c hc 1 _ rfl, hr i c hc 2 _ rfl⟩)
  clear hopen
  refine lay_start ?_
  go_enter Tryz.func55, Tryz.ntmps55
  go_wp2_with fail
  go_loopw [10] (fun v10 wr => ∃ (i : Nat) (d : Ext), i ≤ N ∧ v10 = .int .i64 (i : Int) ∧ wr = lay w (.inr d :: [.inl (Obj.cells #[.int .i64 0, .int .i64 0] 25)]) ∧ wyF (l.drop i) up = wyF l up) (fun v10 _ => ((N : Int) - intOf v10).toNat)
  case atStart => exact ⟨0, noExt _, Nat.zero_le _, rfl, (bw_noExt _).symm, rfl⟩
  case round =>
    obtain ⟨i, d, hi, rfl, rfl, hF⟩ := hrel
    have kI : IntKind.i64.wrap ((i : Int) + 1) = ((i + 1 : Nat) : Int) := by rw [IntWalk.i64_in _ (by omega)]; omega
    by_cases c : i < N
    · obtain ⟨z, hz⟩ : ∃ z, l[i]? = some z := ⟨_, List.getElem?_eq_getElem (by omega)⟩
      obtain ⟨b, o, rfl, hb, e0, e1, e2⟩ := HR.out i z hz
      have i0 : (0 : Int) ≤ (i : Int) := by omega
      have i1 : (i : Int) < (N : Int) := by omega
      by_cases cu : z.up = up
      · obtain ⟨w1, w2, w3⟩ := wy_some (wy_yes hz hF cu)
        have HW := Lib.hid (And.intro w1 (And.intro w2 w3))
        clear w1 w2 w3 hF hz
        obtain ⟨z0, z1, zu⟩ := z
        dsimp only at *
        subst cu
        have eu : (zu == zu) = true := beq_self_eq_true _
        go_wp2_with fail
        exact bodyPost_ret (v := .tuple #[(.agg #[.int .i64 (z0), .int .i64 (z1)]), .bool true]) (by simp [results, Tryz.results55, go_sem]) rfl ⟨by rw [HW.out.1, HW.out.2.1, HW.out.2.2], lay_ex _ _⟩
      · have HF := Lib.hid (wy_no hz hF cu)
        clear hF hz
        obtain ⟨z0, z1, zu⟩ := z
        dsimp only at *
        have eu : (zu == up) = false := beq_eq_false_iff_ne.2 cu
        go_wp2_with fail
        go_roundw
        case rel => exact ⟨i + 1, _, by omega, rfl, (lay_fold w [_, _] _).choose_spec, HF.out⟩
        case measure => simp [intOf]; omega
    · have hn : wyF l up = none := by rw [← hF, List.drop_eq_nil_of_le (by omega)]; rfl
      obtain ⟨w1, w2, w3⟩ := wy_none hn
      have HW := Lib.hid (And.intro w1 (And.intro w2 w3))
      clear w1 w2 w3 hF hn
      go_wp2_with fail
      exact bodyPost_ret (v := .tuple #[(.agg #[.int .i64 (0), .int .i64 (0)]), .bool false]) (by simp [results, Tryz.results55, go_sem]) rfl ⟨by rw [HW.out.1, HW.out.2.1, HW.out.2.2], lay_ex _ _⟩
set_option maxHeartbeats 4000000 in
set_option maxRecDepth 100000 in
theorem r50_way (v : Value) (l : List CrV) (up : Bool) (w : World) (h : SlG rcR w v l) (hl : l.length ≤ 145) :
    Calls Tryz.prog 57 #[v, .bool up] w fun e w' => e = .returned (.tuple #[(.agg #[.int .i64 (wyL l up), .int .i64 (wyH l up)]), .bool (wyB l up)]) ∧ ∃ d, w' = bw w d := by
  obtain ⟨va, vc, rfl, hcap, -, hopen⟩ := h
  obtain ⟨N, hN⟩ : ∃ N, l.length = N := ⟨_, rfl⟩
  rw [hN] at hcap hl ⊢
  have HR : Hid (∀ i c, l[i]? = some c → ∃ b o, va = some ⟨b, o, none⟩ ∧ b < w.heap.size ∧ w.cell? ⟨b, o + i * 3, none⟩ = some (.int .i64 c.lo) ∧ w.cell? ⟨b, o + i * 3 + 1, none⟩ = some (.int .i64 c.hi) ∧ w.cell? ⟨b, o + i * 3 + 2, none⟩ = some (.bool c.up)) := Lib.hid (fun i c hc => by
    obtain ⟨b, o, e, hb, hr⟩ := hopen (by rintro rfl; simp at hc)
    exact ⟨b, o, e, hb, hr i c hc 0 _ rfl, hr i c hc 1 _ rfl, hr i c hc 2 _ rfl⟩)
  clear hopen
  refine lay_start ?_
  go_enter Tryz.func57, Tryz.ntmps57
  go_wp2_with fail
  go_loopw [6] (fun v6 wr => ∃ (i : Nat) (d : Ext), i ≤ N ∧ v6 = .int .i64 (i : Int) ∧ wr = lay w (.inr d :: [.inl (Obj.cells #[.int .i64 0, .int .i64 0] 25)]) ∧ wyF (l.drop i) up = wyF l up) (fun v6 _ => ((N : Int) - intOf v6).toNat)
  case atStart => exact ⟨0, noExt _, Nat.zero_le _, rfl, (bw_noExt _).symm, rfl⟩
  case round =>
    obtain ⟨i, d, hi, rfl, rfl, hF⟩ := hrel
    have kI : IntKind.i64.wrap ((i : Int) + 1) = ((i + 1 : Nat) : Int) := by rw [IntWalk.i64_in _ (by omega)]; omega
    by_cases c : i < N
    · obtain ⟨z, hz⟩ : ∃ z, l[i]? = some z := ⟨_, List.getElem?_eq_getElem (by omega)⟩
      obtain ⟨b, o, rfl, hb, e0, e1, e2⟩ := HR.out i z hz
      have i0 : (0 : Int) ≤ (i : Int) := by omega
      have i1 : (i : Int) < (N : Int) := by omega
      by_cases cu : z.up = up
      · obtain ⟨w1, w2, w3⟩ := wy_some (wy_yes hz hF cu)
        have HW := Lib.hid (And.intro w1 (And.intro w2 w3))
        clear w1 w2 w3 hF hz
        obtain ⟨z0, z1, zu⟩ := z
        dsimp only at *
        subst cu
        have eu : (zu == zu) = true := beq_self_eq_true _
        go_wp2_with fail
        exact bodyPost_ret (v := .tuple #[(.agg #[.int .i64 (z0), .int .i64 (z1)]), .bool true]) (by simp [results, Tryz.results57, go_sem]) rfl ⟨by rw [HW.out.1, HW.out.2.1, HW.out.2.2], lay_ex _ _⟩
      · have HF := Lib.hid (wy_no hz hF cu)
        clear hF hz
        obtain ⟨z0, z1, zu⟩ := z
        dsimp only at *
        have eu : (zu == up) = false := beq_eq_false_iff_ne.2 cu
        go_wp2_with fail
        go_roundw
        case rel => exact ⟨i + 1, _, by omega, rfl, rfl, HF.out⟩
        case measure => simp [intOf]; omega
    · have hn : wyF l up = none := by rw [← hF, List.drop_eq_nil_of_le (by omega)]; rfl
      obtain ⟨w1, w2, w3⟩ := wy_none hn
      have HW := Lib.hid (And.intro w1 (And.intro w2 w3))
      clear w1 w2 w3 hF hn
      go_wp2_with fail
      exact bodyPost_ret (v := .tuple #[(.agg #[.int .i64 (0), .int .i64 (0)]), .bool false]) (by simp [results, Tryz.results57, go_sem]) rfl ⟨by rw [HW.out.1, HW.out.2.1, HW.out.2.2], lay_ex _ _⟩
def dyE (f : Int) : Int := if insB f = true ∧ insB (f + 86400000) = true then 0 else 2
theorem dyE_0 {f : Int} (h : dyE f = 0) : insB f = true ∧ insB (f + 86400000) = true ∧ -70368744177664 ≤ f ∧ f + 86400000 ≤ 70368744177664 := by
  unfold dyE at h
  split at h
  · rename_i c
    exact ⟨c.1, c.2, (of_decide_eq_true c.1).1, (of_decide_eq_true c.2).2⟩
  · cases h
set_option maxHeartbeats 2000000 in
set_option maxRecDepth 100000 in
theorem r50_day (f : Int) (w : World) :
    Calls Tryz.prog 56 #[.int .i64 f] w fun e w' => e = .returned (.int .i64 (dyE f)) ∧ ∃ d, w' = bw w d := by
  have H1 := Lib.hid (fun W => ref10_Instant f W)
  have H2 := Lib.hid (fun W => ref10_Instant (f + 86400000) W)
  cases c1 : insB f
  · have e : dyE f = 2 := if_neg (by rw [c1]; simp)
    rw [e]
    rw [c1] at H1
    clear e c1 H2
    refine lay_start ?_
    go_enter Tryz.func56, Tryz.ntmps56
    go_wp2_with (go_at_call 42; (with_reducible refine (H1.out _).mono ?_); rintro e w' ⟨rfl, rfl⟩)
    go_ret
    exact ⟨rfl, by first | exact lay_ex _ _ | exact ⟨noExt _, (bw_noExt _).symm⟩⟩
  · have e3 := of_decide_eq_true c1
    have k1 : IntKind.i64.wrap (f + 86400000) = f + 86400000 := IntWalk.i64_in _ (by omega)
    cases c2 : insB (f + 86400000)
    · have e : dyE f = 2 := if_neg (by rw [c2]; simp)
      rw [e]
      rw [c1] at H1
      rw [c2] at H2
      clear e c1 c2 e3
      refine lay_start ?_
      go_enter Tryz.func56, Tryz.ntmps56
      go_wp2_with (go_at_call 42; first | ((with_reducible refine (H1.out _).mono ?_); rintro e w' ⟨rfl, rfl⟩) | ((with_reducible refine (H2.out _).mono ?_); rintro e w' ⟨rfl, rfl⟩))
      go_ret
      exact ⟨rfl, by first | exact lay_ex _ _ | exact ⟨noExt _, (bw_noExt _).symm⟩⟩
    · have e : dyE f = 0 := if_pos ⟨c1, c2⟩
      rw [e]
      rw [c1] at H1
      rw [c2] at H2
      clear e c1 c2 e3
      refine lay_start ?_
      go_enter Tryz.func56, Tryz.ntmps56
      go_wp2_with (go_at_call 42; first | ((with_reducible refine (H1.out _).mono ?_); rintro e w' ⟨rfl, rfl⟩) | ((with_reducible refine (H2.out _).mono ?_); rintro e w' ⟨rfl, rfl⟩))
      go_ret
      exact ⟨rfl, by first | exact lay_ex _ _ | exact ⟨noExt _, (bw_noExt _).symm⟩⟩
end Go.Proofs.YthjfadfebhjhbaaGreat

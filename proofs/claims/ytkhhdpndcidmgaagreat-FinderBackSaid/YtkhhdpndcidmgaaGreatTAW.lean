/- Contracts and plain laws, several texts in one: Frame; HvP; AsW1; AsW2; ExP; MixB; RowS; RowB -/
import Derived.Test.YtkhhdpndcidmgaaGreatRows
import Derived.WalkKit
import Derived.ProofKit
import Derived.Lib.SmallJoins
import Derived.OpenShut
import Derived.Test.YtkhhdpndcidmgaaGreatProg
import Derived.WalkSpells
import Derived.WalkLawsBesides
import Derived.Lib.Hide
import Derived.BigQuiet
import Derived.Test.YtkhhdpndcidmgaaGreatTAE
import Derived.Test.YtkhhdpndcidmgaaGreatTAF
import Derived.Test.YtkhhdpndcidmgaaGreatTAG
import Derived.Test.YtkhhdpndcidmgaaGreatTAI
import Derived.Test.YtkhhdpndcidmgaaGreatTAJ
import Derived.Test.YtkhhdpndcidmgaaGreatTAS
import Derived.Test.YtkhhdpndcidmgaaGreatTAV
/- The step from a law's walk to its row: every argument reads behind the call as it did before; the result is true. -/
namespace Go.Proofs.YtkhhdpndcidmgaaGreat
open Go.ChangeShapes Go.WideShapes Go.ChangeAt Go.RowKit Go.Joins

theorem ownKnob_none : ownKnob Tryz.prog.godebug = none := by kernel_rfl
theorem laid_out : laidOutB Tryz.prog = true := by kernel_rfl

theorem trodAll_stays {H : Type} {enc : TypeId × Value → H} {P : Program} (hl : laidOutB P = true) {W W' : World} (hb : Below W.heap.size W W') :
    ∀ (ts : List TypeId) (vs : List Value) (ds : List (DataW H)) (ps : List MemPlace), ts.all (fun t => P.readableRec t && decide (t < P.types.size)) = true →
    (∀ x ∈ ps, x.block < W.heap.size) → DataW.TrodAll enc P W 0 (fun _ => true) true ts vs ds ps → DataW.TrodAll enc P W' 0 (fun b => decide (b < W.heap.size)) true ts vs ds ps
  | [], vs, ds, ps, _, _, h => by cases vs <;> cases ds <;> simp_all [DataW.TrodAll]
  | t :: ts, vs, ds, ps, hr, hlt, h => by
    obtain ⟨v, vs', d, ds', p, q, rfl, rfl, rfl, h1, h2⟩ := trodAll_cons h
    simp only [List.all_cons, Bool.and_eq_true, decide_eq_true_eq] at hr
    exact ⟨p, q, Below.trod hl hr.1.1 hr.1.2 h1 hb (fun x hx => hlt x (List.mem_append_left _ hx)),
      trodAll_stays hl hb ts vs' ds' q hr.2 (fun x hx => hlt x (List.mem_append_right _ hx)) h2, rfl⟩

theorem law_post {H : Type} {enc : TypeId × Value → H} {P : Program} {f : Func} {s : ChangeSpec} {W W' : World} {args : Array Value} {ds : List (DataW H)} {before : List MemPlace} {tb : TypeId}
    (hl : laidOutB P = true) (hW : DataW.Whole enc P f.params.toList s.vars false W args.toList ds [] before) (hv : s.vars = [])
    (hs : s.fn H (ds ++ []) = { results := [.lit (.bool true)], args := ds }) (hrt : f.resultTypes = #[tb]) (htb : P.underlying tb = some .bool)
    (hr : f.params.toList.all (fun t => P.readableRec t && decide (t < P.types.size)) = true) (hb : Below W.heap.size W W') :
    s.post enc P f false true false false W args (.bool true) W' := by
  have hlt := hW.lt
  have hW' := hW
  obtain ⟨p, q, hA, hV, rfl, hfz, hnd⟩ := hW'
  rw [hv] at hV
  have hq : q = [] := by simpa [DataW.TrodVars] using hV
  subst hq
  simp only [List.append_nil] at hlt hW
  refine ⟨ds, [], p, [], p, [], hW, ?_, ?_, ?_, hb.frame _, fun h => by cases h⟩
  · rw [hs, hrt]
    exact ⟨[], [], shut_bool htb true, rfl, rfl⟩
  · rw [hs]
    exact trodAll_stays hl hb _ _ _ _ hr hlt hA
  · rw [hs, hv]
    rfl
end Go.Proofs.YtkhhdpndcidmgaaGreat
/- Haversines: plain laws, no walk. -/
namespace Go.Proofs.YtkhhdpndcidmgaaGreat

end Go.Proofs.YtkhhdpndcidmgaaGreat
/- The program's arcsines. -/
namespace Go.Proofs.YtkhhdpndcidmgaaGreat
set_option maxRecDepth 100000
open Go.RowKit

theorem tg_Below (n v : Int) (w : World) :
    Calls Tryz.prog 181 #[.int .i64 n, .int .i64 v] w fun e w' => e = .returned (.int .i64 (belI n v)) ∧ ∃ d, w' = bw w d := by
  have HB := Lib.hid (fun W => tg_bounds n W)
  have h1 := (bb_le n).1
  have h2 := bHi_one n
  unfold belI
  generalize bLo n = lo at *
  generalize bHi n = hi at *
  by_cases c1 : hi ≤ v
  · by_cases c2 : lo < v
    · rw [if_pos ⟨c1, c2⟩]
      have c3 : v ≥ hi := c1
      clear h1 h2
      refine lay_start ?_
      go_enter Tryz.func181, Tryz.ntmps181
      go_wp2_with (go_at_call 77; refine (HB.out _).mono ?_; rintro e w' ⟨rfl, d1, rfl⟩; rw [lay_bw])
      go_ret
      exact ⟨rfl, lay_ex _ _⟩
    · rw [if_neg (fun h => c2 h.2), if_neg (by omega), if_pos (by omega)]
      obtain rfl : v = lo := by omega
      have c4 : ¬ v < hi := by omega
      have c5 : (v == v) = true := beq_iff_eq.2 rfl
      clear h1 h2
      refine lay_start ?_
      go_enter Tryz.func181, Tryz.ntmps181
      go_wp2_with (go_at_call 77; refine (HB.out _).mono ?_; rintro e w' ⟨rfl, d1, rfl⟩; rw [lay_bw])
      go_ret
      exact ⟨rfl, lay_ex _ _⟩
  · by_cases c2 : v ≤ lo
    · rw [if_neg (fun h => c1 h.1), if_pos ⟨c2, by omega⟩]
      have c3 : v < hi := by omega
      clear h1 h2
      refine lay_start ?_
      go_enter Tryz.func181, Tryz.ntmps181
      go_wp2_with (go_at_call 77; refine (HB.out _).mono ?_; rintro e w' ⟨rfl, d1, rfl⟩; rw [lay_bw])
      go_ret
      exact ⟨rfl, lay_ex _ _⟩
    · exact False.elim (by omega)
set_option maxHeartbeats 1000000 in
theorem ar_asin (v : Int) (hv : -1073741824 ≤ v) (w : World) :
    Calls Tryz.prog 147 #[.int .i64 v] w fun e w' => e = .returned (.int .i64 (asnI v)) ∧ ∃ d, w' = bw w d := by
  have HB := Lib.hid (fun n W => tg_Below n v W)
  obtain ⟨R, hR⟩ : ∃ R, asnI v = R := ⟨_, rfl⟩
  have HR : Hid (∀ r, IsAsn v r → r = R) := Lib.hid fun r h => by rw [← hR]; exact (asnI_eq h).symm
  rw [hR]
  have HV := Lib.hid hv
  clear hR hv
  refine lay_start ?_
  go_enter Tryz.func147, Tryz.ntmps147
  go_wp2_with fail
  go_loopw [3, 4] (fun v3 v4 wr => ∃ (l h : Int) (dd : Ext), v3 = .int .i64 l ∧ v4 = .int .i64 h ∧ wr = lay w [.inr dd] ∧ -5400000 ≤ l ∧ l < h ∧ h ≤ 5400001 ∧ bHi l ≤ v ∧ (h = 5400001 ∨ v < bHi h)) (fun v3 v4 _ => (intOf v4 - intOf v3).toNat)
  case atStart => exact ⟨-5400000, 5400001, noExt _, rfl, rfl, (bw_noExt _).symm, by decide, by decide, by decide, by rw [b_bot]; exact HV.out, .inl rfl⟩
  case round =>
    obtain ⟨l, h, dd, rfl, rfl, rfl, hl, hlh, hh, hA, hB⟩ := hrel
    have HA := Lib.hid hA
    have HB2 := Lib.hid hB
    clear hA hB
    have k1 : IntKind.i64.wrap (h - l) = h - l := IntWalk.i64_in _ (by omega)
    by_cases c : 1 < h - l
    · obtain ⟨X, hX⟩ : ∃ X, l + h = X := ⟨_, rfl⟩
      obtain ⟨m, hm⟩ : ∃ m, X / 2 = m := ⟨_, rfl⟩
      have k2 : IntKind.i64.wrap (l + h) = X := by rw [hX]; exact IntWalk.i64_in _ (by omega)
      have hml : l < m ∧ m < h := by omega
      have HLH := Lib.hid (And.intro hl (And.intro hlh (And.intro hh hml)))
      have HI := Lib.hid (belI_iff m v)
      have HBm := Lib.hid (fun W => HB.out m W)
      clear hX hl hlh hh hml
      by_cases cb : belI m v ≤ 0
      · have HLe := Lib.hid (HI.out.1 cb)
        generalize belI m v = r at *
        go_wp2_with (go_at_call 181; refine (HBm.out _).mono ?_; rintro e w' ⟨rfl, d1, rfl⟩; rw [lay_bw])
        obtain ⟨g1, g2, g3, g4, g5⟩ := HLH.out
        obtain ⟨de, hde⟩ := lay_all w [.inr d1, .inr dd]
        exact ⟨⟨_, _, de, rfl, rfl, hde, by omega, by omega, g3, HLe.out, HB2.out⟩, by simp only [intOf]; omega⟩
      · have HLe := Lib.hid (fun h' => cb (HI.out.2 h'))
        generalize belI m v = r at *
        go_wp2_with (go_at_call 181; refine (HBm.out _).mono ?_; rintro e w' ⟨rfl, d1, rfl⟩; rw [lay_bw])
        obtain ⟨g1, g2, g3, g4, g5⟩ := HLH.out
        obtain ⟨de, hde⟩ := lay_all w [.inr d1, .inr dd]
        have hlt : v < bHi m := Int.not_le.1 HLe.out
        exact ⟨⟨_, _, de, rfl, rfl, hde, g1, by omega, by omega, HA.out, .inr hlt⟩, by simp only [intOf]; omega⟩
    · have hR : l = R := by
        refine HR.out l ⟨hl, by omega, HA.out, ?_⟩
        have hhl : h = l + 1 := by omega
        subst hhl
        rcases HB2.out with h1 | h1
        · left; omega
        · right; exact h1
      clear hl hlh hh HA HB2 HR
      subst hR
      go_wp2_with fail
      go_ret
      exact ⟨rfl, lay_ex _ _⟩
end Go.Proofs.YtkhhdpndcidmgaaGreat
/- arctrig: part, Asin, Acos, Ahav. -/
namespace Go.Proofs.YtkhhdpndcidmgaaGreat
set_option maxRecDepth 100000
open Go.RowKit

theorem asE_at (lo hi : Int) : asE lo hi = if fxB lo hi = false then 1 else if mn hi 1073741824 < mx lo (-1073741824) then 2 else 0 := by unfold asE fxB; rfl
theorem ar_part (a0 a1 lo hi : Int) (w : World) :
    Calls Tryz.prog 146 #[(.agg #[.int .i64 (a0), .int .i64 (a1)]), .int .i64 lo, .int .i64 hi] w fun e w' => e = .returned (.tuple #[(.agg #[.int .i64 (mx a0 lo), .int .i64 (mn a1 hi)]), .bool (decide (mx a0 lo ≤ mn a1 hi))]) ∧ ∃ d, w' = bw w d := by
  refine lay_start ?_
  go_enter Tryz.func146, Tryz.ntmps146
  go_wp2_with fail
  go_region
  go_wp2_with fail
  exact bodyPost_ret (v := .tuple #[(.agg #[.int .i64 (mx a0 lo), .int .i64 (mn a1 hi)]), .bool (decide (mx a0 lo ≤ mn a1 hi))]) (by simp [results, Tryz.results146, go_sem]) rfl ⟨rfl, by rw [bw_drewExt, lay_bw]; exact lay_ex _ _⟩
theorem ar_Asin (lo hi : Int) (w : World) :
    Calls Tryz.prog 112 #[(.agg #[.int .i64 (lo), .int .i64 (hi)])] w fun e w' => e = .returned (.tuple #[(.agg #[.int .i64 (asL lo hi), .int .i64 (asH lo hi)]), .int .i64 (asE lo hi)]) ∧ ∃ d, w' = bw w d := by
  have HV := Lib.hid (fun W => fx_ValidG lo hi W)
  have HP := Lib.hid (fun W => ar_part lo hi (-1073741824) 1073741824 W)
  unfold asL asH
  rw [asE_at]
  cases h : fxB lo hi
  · rw [h] at HV
    clear h HP
    rw [if_pos rfl, if_neg (show ¬ ((1 : Int) = 0) by decide), if_neg (show ¬ ((1 : Int) = 0) by decide)]
    refine lay_start ?_
    go_enter Tryz.func112, Tryz.ntmps112
    go_wp2_with (go_at_call 71; refine (HV.out _).mono ?_; rintro e w' ⟨rfl, d, rfl⟩)
    exact bodyPost_ret (v := .tuple #[(.agg #[.int .i64 (0), .int .i64 (0)]), .int .i64 1]) (by simp [results, Tryz.results112, go_sem]) rfl ⟨rfl, lay_ex _ _⟩
  · rw [h] at HV
    have hb := fxB_iff.1 h
    have hx : -1073741824 ≤ mx lo (-1073741824) := by rw [mx_eq]; omega
    have hn : mn hi 1073741824 ≤ 1073741824 := by rw [mn_eq]; omega
    have hn2 : -2147483648 ≤ mn hi 1073741824 := by rw [mn_eq]; omega
    have hd : (mn hi 1073741824 < mx lo (-1073741824)) ∨ mx lo (-1073741824) ≤ mn hi 1073741824 := by omega
    have H1 := Lib.hid (fun W => ar_asin (mx lo (-1073741824)) hx W)
    have H2 := Lib.hid (fun W => ar_asin (-(mn hi 1073741824)) (by omega) W)
    have i1 := asnI_in (v := mx lo (-1073741824)) hx
    have i2 := asnI_in (v := -(mn hi 1073741824)) (by omega)
    clear h
    generalize mx lo (-1073741824) = x at *
    generalize mn hi 1073741824 = y at *
    generalize asnI x = u at *
    obtain ⟨y', hy'⟩ : ∃ y', -y = y' := ⟨_, rfl⟩
    have ky : IntKind.i64.wrap (-y) = y' := by rw [hy']; exact IntWalk.i64_in _ (by omega)
    rw [hy'] at H2 i2
    rw [hy']
    generalize asnI y' = v at *
    have kv : IntKind.i64.wrap (-v) = -v := IntWalk.i64_in _ (by omega)
    clear hb hx hn hn2 i1 i2 hy'
    rcases hd with hd | hd
    · rw [show decide (x ≤ y) = false from decide_eq_false (by omega)] at HP
      rw [if_neg (show ¬ (true = false) by decide), if_pos hd, if_neg (show ¬ ((2 : Int) = 0) by decide), if_neg (show ¬ ((2 : Int) = 0) by decide)]
      refine lay_start ?_
      go_enter Tryz.func112, Tryz.ntmps112
      go_wp2_with (first | (go_at_call 71; refine (HV.out _).mono ?_; rintro e w' ⟨rfl, d, rfl⟩) | (go_at_call 146; refine (HP.out _).mono ?_; rintro e w' ⟨rfl, d2, rfl⟩))
      exact bodyPost_ret (v := .tuple #[(.agg #[.int .i64 (0), .int .i64 (0)]), .int .i64 2]) (by simp [results, Tryz.results112, go_sem]) rfl ⟨rfl, lay_ex _ _⟩
    · rw [show decide (x ≤ y) = true from decide_eq_true (by omega)] at HP
      rw [if_neg (show ¬ (true = false) by decide), if_neg (show ¬ (y < x) by omega), if_pos rfl, if_pos rfl]
      refine lay_start ?_
      go_enter Tryz.func112, Tryz.ntmps112
      go_wp2_with (first | (go_at_call 71; refine (HV.out _).mono ?_; rintro e w' ⟨rfl, d, rfl⟩) | (go_at_call 146; refine (HP.out _).mono ?_; rintro e w' ⟨rfl, d2, rfl⟩))
      refine region_bw_tail 9 (by kernel_rfl) (by kernel_rfl) ?_
      simp only [List.take_succ_cons, List.take_zero, List.drop_succ_cons, List.drop_zero]
      repeat (go_big_quiet_step ((first | (go_at_call 147; first | (with_reducible exact bq (H1.out _) (fun d => lay_join _ _ _ d)) | (with_reducible exact bq (H1.out _) (fun d => ⟨d, rfl⟩)) | (with_reducible exact bq (H2.out _) (fun d => lay_join _ _ _ d)) | (with_reducible exact bq (H2.out _) (fun d => ⟨d, rfl⟩))))))
      refine wpQuiet_nil ?_
      rintro w' ⟨d, rfl⟩
      rw [lay_bw]
      go_wp2_with fail
      exact bodyPost_ret (v := .tuple #[(.agg #[.int .i64 (u), .int .i64 (-v)]), .int .i64 0]) (by simp [results, Tryz.results112, go_sem]) rfl ⟨rfl, lay_ex _ _⟩
end Go.Proofs.YtkhhdpndcidmgaaGreat
/- The latitude by an ex-meridian altitude: what is reckoned. No program in sight. -/
namespace Go.Proofs.YtkhhdpndcidmgaaGreat
open Go.RowKit

def cosL (lo hi : Int) : Int := encL (lo + 5400000) (hi + 5400000)
def cosH (lo hi : Int) : Int := encH (lo + 5400000) (hi + 5400000)
theorem cos_in2 (lo hi : Int) : -1073741824 ≤ cosL lo hi ∧ cosL lo hi ≤ cosH lo hi ∧ cosH lo hi ≤ 1073741824 := enc_in
def ccL (a0 a1 b0 b1 : Int) : Int := mulL (cosL a0 a1) (cosH a0 a1) (cosL b0 b1) (cosH b0 b1)
def ccH (a0 a1 b0 b1 : Int) : Int := mulH (cosL a0 a1) (cosH a0 a1) (cosL b0 b1) (cosH b0 b1)
theorem cc_in (a0 a1 b0 b1 : Int) : -1073741824 ≤ ccL a0 a1 b0 b1 ∧ ccL a0 a1 b0 b1 ≤ ccH a0 a1 b0 b1 ∧ ccH a0 a1 b0 b1 ≤ 1073741824 := by
  obtain ⟨p1, p2, p3⟩ := cos_in2 a0 a1
  obtain ⟨q1, q2, q3⟩ := cos_in2 b0 b1
  exact mul_unit p1 p2 p3 q1 q2 q3
theorem unit_fx {a b : Int} (h : -1073741824 ≤ a ∧ a ≤ b ∧ b ≤ 1073741824) : fxB a b = true := fxB_iff.2 (by omega)
end Go.Proofs.YtkhhdpndcidmgaaGreat
/- Regions that draw their order, by a schedule that may branch in two: where two operations that make memory are ready, each may come first. No program in sight. -/
namespace Go.Proofs.YtkhhdpndcidmgaaGreat
open Go.RowKit

section
variable {P : Program} {md : Region.Mode} {κ : Type} {Cl : κ → World} {l : List Oper} {ops : Array Oper}

end
end Go.Proofs.YtkhhdpndcidmgaaGreat
/- An append to a row of records, at a step of a region that draws its order. No function of the program. -/
namespace Go.Proofs.YtkhhdpndcidmgaaGreat
open Go.RowKit
variable {α : Type} {R : RecT α}

end Go.Proofs.YtkhhdpndcidmgaaGreat
/- Steps of a branching schedule: appends to a row of records. No function of the program. -/
namespace Go.Proofs.YtkhhdpndcidmgaaGreat
open Go.RowKit
variable {α : Type} {R : RecT α}

theorem owG_empty' (R : RecT α) {w : World} {A B L : List (Obj ⊕ Ext)} : OwG R (Go.Proofs.YtkhhdpndcidmgaaGreat.lay w (A ++ .inl (.cells #[] R.E (0, 0)) :: (B ++ L))) (Go.Proofs.YtkhhdpndcidmgaaGreat.lay w L).heap.size (.slice (some ⟨posn w (shp (B ++ L)), 0, none⟩) 0 0) [] :=
  owG_on (A := A) (((owG_empty R (w := w) (L := B ++ L))).le (by rw [lay_appG]; exact (lay_extends _ B).size))
end Go.Proofs.YtkhhdpndcidmgaaGreat

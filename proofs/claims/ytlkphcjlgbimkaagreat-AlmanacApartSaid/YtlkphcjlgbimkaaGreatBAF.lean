/- Contracts and plain laws, several texts in one: Pg3; Sta2; Pv; Pv2 -/
import Derived.Test.YtlkphcjlgbimkaaGreatProg
import Derived.WalkKit
import Derived.WalkSpells
import Derived.WalkLawsBesides
import Derived.Lib.Hide
import Derived.BigQuiet
import Derived.Deep.RegionWith
import Derived.Test.YtlkphcjlgbimkaaGreatBAA
import Derived.Test.YtlkphcjlgbimkaaGreatBAB
import Derived.Test.YtlkphcjlgbimkaaGreatBAC
import Derived.Test.YtlkphcjlgbimkaaGreatBAD
import Derived.Test.YtlkphcjlgbimkaaGreatBAE
/- The reference's valid tracks. -/
namespace Go.Proofs.YtlkphcjlgbimkaaGreat
open Go.RowKit

theorem out_cases (x lo hi : Int) : (decide (x < lo) = true ∧ outB x lo hi = true) ∨ (decide (x < lo) = false ∧ decide (hi < x) = true ∧ outB x lo hi = true) ∨ (decide (x < lo) = false ∧ decide (hi < x) = false ∧ outB x lo hi = false) := by
  unfold outB
  simp only [decide_eq_true_eq, decide_eq_false_iff_not]
  omega
set_option maxHeartbeats 1000000 in
theorem ref13_in (v : Value) (l : List Int) (lo hi : Int) (w : World) (hv : Lst w v l) :
    Calls Tryz.prog 82 #[v, .int .i64 lo, .int .i64 hi] w fun e w' => e = .returned (.bool (inLB l lo hi)) ∧ ∃ d, w' = bw w d := by
  obtain ⟨a, cap, rfl, g1, -, k1⟩ := hv
  obtain ⟨m, hm⟩ : ∃ m, m = l.length := ⟨_, rfl⟩
  rw [← hm] at g1 k1
  rw [← hm]
  have HM := Lib.hid hm
  by_cases hz : m = 0
  · have HN : Hid (true = inLB l lo hi) := Lib.hid (inLB_iff.2 (by rw [← hm, hz]; exact fun i hi => absurd hi (Nat.not_lt_zero i))).symm
    subst hz
    clear k1 hm
    refine lay_start ?_
    go_enter Tryz.func82, Tryz.ntmps82
    go_wp2_with fail
    refine wp_loop_rounds 1 ?_
    rw [rounds_succ]
    go_wp2
    go_ret
    exact ⟨ret_bool HN.out, lay_ex _ _⟩
  · obtain ⟨b, o, rfl, s1, r1⟩ := k1 (by rintro rfl; simp at hm; omega)
    have HR := Lib.hid r1
    clear r1 k1 hm
    refine lay_start ?_
    go_enter Tryz.func82, Tryz.ntmps82
    go_wp2_with fail
    go_loopw [7] (fun i wr => ∃ (k : Nat) (e : Ext), k ≤ m ∧ i = .int .i64 k ∧ wr = lay w [.inr e] ∧ InL l lo hi k) (fun i _ => m - (intOf i).toNat)
    case atStart => exact ⟨0, _, Nat.zero_le _, rfl, Classical.choose_spec (lay_fold w [] _), fun i hi => absurd hi (Nat.not_lt_zero i)⟩
    case round =>
      obtain ⟨k, e, hk, rfl, rfl, hA⟩ := hrel
      have HA := Lib.hid hA
      clear hA
      by_cases hlt : k < m
      · have e1 := HR.out k hlt
        obtain ⟨x, hx⟩ : ∃ x, x = l.getD k 0 := ⟨_, rfl⟩
        rw [← hx] at e1
        have HX := Lib.hid hx
        clear hx
        rcases out_cases x lo hi with ⟨t1, t2⟩ | ⟨t1, t3, t2⟩ | ⟨t1, t3, t2⟩
        · have HN : Hid (false = inLB l lo hi) := Lib.hid (inLB_no fun h => by have := h k (by rw [← HM.out]; exact hlt); rw [← HX.out] at this; have := outB_iff.1 t2; omega).symm
          clear t2
          go_wp2
          go_ret
          exact ⟨ret_bool HN.out, lay_ex _ _⟩
        · have HN : Hid (false = inLB l lo hi) := Lib.hid (inLB_no fun h => by have := h k (by rw [← HM.out]; exact hlt); rw [← HX.out] at this; have := outB_iff.1 t2; omega).symm
          clear t2
          go_wp2
          go_ret
          exact ⟨ret_bool HN.out, lay_ex _ _⟩
        · have HN := Lib.hid t2
          clear t2
          go_wp2
          go_roundw
          case rel => exact ⟨k + 1, _, by omega, by go_num, Classical.choose_spec (lay_all w _), fun i hi => by
            by_cases e : i = k
            · subst e; rw [← HX.out]; have t2 := HN.out; unfold outB at t2; simp only [decide_eq_false_iff_not] at t2; omega
            · exact HA.out i (by omega)⟩
          case measure => simp [intOf]; omega
      · obtain rfl : k = m := by omega
        have HN : Hid (true = inLB l lo hi) := Lib.hid (inLB_iff.2 (by rw [← HM.out]; exact HA.out)).symm
        go_wp2
        go_ret
        exact ⟨ret_bool HN.out, lay_ex _ _⟩
set_option maxHeartbeats 2000000 in
set_option maxRecDepth 100000 in
theorem ref13_ValidTrack (v : Value) (t : TrkV) (w : World) (hv : Trk w v t) :
    Calls Tryz.prog 84 #[v] w fun e w' => e = .returned (.bool (trkB t)) ∧ ∃ d, w' = bw w d := by
  obtain ⟨vg, vd, rfl, hs, hg, hd, hp, hq, hr⟩ := hv
  obtain ⟨s, gs, ds, p, q, r⟩ := t
  simp only at hs hg hd hp hq hr ⊢
  have HG := Lib.hid hg
  have HD := Lib.hid hd
  obtain ⟨ag, cg, rfl, g1, -, -⟩ := hg
  obtain ⟨ad, cd, rfl, d1, -, -⟩ := hd
  have HP := Lib.hid hp
  have HQ := Lib.hid hq
  have HR := Lib.hid hr
  clear hp hq hr
  refine lay_start ?_
  go_enter Tryz.func84, Tryz.ntmps84
  go_wp2_with (first | (go_at_call 89; refine (ref01_IsName _ _ hs).mono ?_; rintro e w' ⟨rfl, rfl⟩) | (go_at_call_of 82 (Value.int .i64 215999); refine (ref13_in _ gs _ _ _ (HG.out.lay _)).mono ?_; rintro e w' ⟨rfl, d, rfl⟩) | (go_at_call_of 82 (Value.int .i64 54000); refine (ref13_in _ ds _ _ _ (HD.out.lay _)).mono ?_; rintro e w' ⟨rfl, d, rfl⟩) | (go_at_call_of 82 (Value.int .i64 200); refine (ref13_in _ [p] _ _ _ (by exact lst_one _ _ _ _ HP.out)).mono ?_; rintro e w' ⟨rfl, d, rfl⟩) | (go_at_call_of 82 (Value.int .i64 620); refine (ref13_in _ [q] _ _ _ (by exact lst_one _ _ _ _ HQ.out)).mono ?_; rintro e w' ⟨rfl, d, rfl⟩) | (go_at_call_of 82 (Value.int .i64 1000); refine (ref13_in _ [r] _ _ _ (by exact lst_one _ _ _ _ HR.out)).mono ?_; rintro e w' ⟨rfl, d, rfl⟩))
  all_goals go_ret
  all_goals exact ⟨ret_bool (by simp [trkB, *]), lay_ex _ _⟩
end Go.Proofs.YtlkphcjlgbimkaaGreat
/- Stars: their numbers, the index of a name. -/
namespace Go.Proofs.YtlkphcjlgbimkaaGreat
open Go.RowKit Go.Shelf

def numB (a b c : Int) : Bool := decide ((0 ≤ a ∧ a ≤ 215999) ∧ (-54000 ≤ b ∧ b ≤ 54000) ∧ -20 ≤ c ∧ c ≤ 150)
set_option maxHeartbeats 1000000 in
theorem cat_numbers (s : ByteArray) (a b c : Int) (w : World) :
    Calls Tryz.prog 146 #[.agg #[.string s, .int .i64 a, .int .i64 b, .int .i64 c]] w fun e w' => e = .returned (.bool (numB a b c)) ∧ ∃ d, w' = bw w d := by
  refine lay_start ?_
  go_enter Tryz.func146, Tryz.ntmps146
  go_wp2
  all_goals go_ret
  all_goals exact ⟨ret_bool (by first | (simp [numB, *]; done) | (rw [Bool.eq_iff_iff]; simp [numB, *]; done) | (rw [Bool.eq_iff_iff]; simp [numB]; omega)), lay_ex _ _⟩
set_option maxHeartbeats 1000000 in
theorem ref16_Star (s : ByteArray) (a b c : Int) (w : World) :
    Calls Tryz.prog 90 #[.agg #[.string s, .int .i64 a, .int .i64 b, .int .i64 c]] w fun e w' => e = .returned (.int .i64 (if numB a b c = true then 0 else 2)) ∧ ∃ d, w' = bw w d := by
  cases h : numB a b c
  · have hc : a < 0 ∨ (¬ a < 0 ∧ 215999 < a) ∨ (¬ a < 0 ∧ ¬ 215999 < a ∧ b < -54000) ∨ (¬ a < 0 ∧ ¬ 215999 < a ∧ ¬ b < -54000 ∧ 54000 < b) ∨ (¬ a < 0 ∧ ¬ 215999 < a ∧ ¬ b < -54000 ∧ ¬ 54000 < b ∧ c < -20) ∨ (¬ a < 0 ∧ ¬ 215999 < a ∧ ¬ b < -54000 ∧ ¬ 54000 < b ∧ ¬ c < -20 ∧ 150 < c) := by
      simp only [numB, decide_eq_false_iff_not] at h
      omega
    rw [if_neg (by decide)]
    clear h
    rcases hc with h1 | ⟨h1, h2⟩ | ⟨h1, h2, h3⟩ | ⟨h1, h2, h3, h4⟩ | ⟨h1, h2, h3, h4, h5⟩ | ⟨h1, h2, h3, h4, h5, h6⟩
    all_goals
      refine lay_start ?_
      go_enter Tryz.func90, Tryz.ntmps90
      go_wp2
      go_ret
      exact ⟨rfl, lay_ex _ _⟩
  · obtain ⟨⟨h1, h2⟩, ⟨h3, h4⟩, h5, h6⟩ : (0 ≤ a ∧ a ≤ 215999) ∧ (-54000 ≤ b ∧ b ≤ 54000) ∧ -20 ≤ c ∧ c ≤ 150 := by simpa [numB] using h
    rw [if_pos rfl]
    clear h
    refine lay_start ?_
    go_enter Tryz.func90, Tryz.ntmps90
    go_wp2
    go_ret
    exact ⟨rfl, lay_ex _ _⟩
/-- Two names are equal. -/
def nmB (a b : ByteArray) : Bool := a.toList == b.toList
set_option maxHeartbeats 1000000 in
theorem cat_index1 (x : StarV) (s : ByteArray) (b : Nat) (w : World) (hb : b < w.heap.size) (hc : w.cell? ⟨b, 0, none⟩ = some (.string s)) :
    Calls Tryz.prog 170 #[.agg #[.string x.s, .int .i64 x.sha, .int .i64 x.dec, .int .i64 x.mag], .pointer (some ⟨b, 0, none⟩)] w fun e w' => e = .returned (.bool (nmB x.s s)) ∧ ∃ d, w' = bw w d := by
  obtain ⟨xs, x1, x2, x3⟩ := x
  dsimp only
  refine lay_start ?_
  go_enter Tryz.func170, Tryz.ntmps170
  go_wp2
  go_ret
  exact ⟨rfl, lay_ex _ _⟩
/-- The place of the first star with a name, or -1. -/
def fndS (l : List StarV) (s : ByteArray) : Int := idxR (fun x => nmB x.s s) l 0
set_option maxHeartbeats 1000000 in
theorem cat_index (v : Value) (l : List StarV) (s : ByteArray) (w : World) (hv : SlG stR w v l) :
    Calls Tryz.prog 147 #[v, .string s] w (IdxPost w (fndS l s)) := by
  have eI : ∀ args w, (callFunc 170 args).run Tryz.prog w = .ok (.enter 170 args) w := enters_of Tryz.func170 (by kernel_rfl) rfl
  have H := Lib.hid (st_IndexFunc 170 [.pointer (some ⟨posn w [], 0, none⟩)] (fun x => nmB x.s s) v l (lay w [.inl (.cells #[.string s] 9 (0, 0))]) (hv.lay _) eI (fun x _ d =>
    cat_index1 x s (posn w []) (lay w [.inr d, .inl (.cells #[.string s] 9 (0, 0))]) (by simp only [lay_size, shp, posn, List.sum_cons, List.sum_nil, Ext.n]; omega) (by simp [go_sem]) |>.mono fun e w' ⟨h1, d2, h2⟩ => ⟨h1, _, h2.trans (bw_bw _ _ _)⟩))
  obtain ⟨a, c, rfl⟩ := hv.form
  unfold fndS
  generalize idxR (fun x => nmB x.s s) l 0 = I at *
  generalize l.length = m at *
  clear eI hv
  refine lay_start ?_
  go_enter Tryz.func147, Tryz.ntmps147
  go_wp2_with fail
  refine H.out.mono ?_
  rintro e w' ⟨rfl, d1, rfl⟩
  rw [lay_bw]
  go_wp2
  go_ret
  exact ⟨rfl, lay_ex _ _⟩
set_option maxHeartbeats 1000000 in
theorem ref16_Find (v : Value) (l : List StarV) (s : ByteArray) (w : World) (hv : SlG stR w v l) :
    Calls Tryz.prog 70 #[v, .string s] w (IdxPost w (fndS l s)) := by
  unfold fndS
  obtain ⟨p, hp⟩ : ∃ p : StarV → Bool, (fun x => nmB x.s s) = p := ⟨_, rfl⟩
  rw [hp]
  have HPn : Hid (∀ x : StarV, p x = (x.s.toList == s.toList)) := Lib.hid (fun x => by rw [← hp]; rfl)
  clear hp
  by_cases hz : l = []
  · subst hz
    obtain ⟨a, cap, rfl⟩ := hv.form
    refine lay_start ?_
    go_enter Tryz.func70, Tryz.ntmps70
    go_wp2_with fail
    refine wp_loop_rounds 1 ?_
    rw [rounds_succ]
    go_wp2
    go_ret
    exact ⟨rfl, lay_ex _ _⟩
  · obtain ⟨b, o, cap, rfl, hc, hb, hr⟩ := hv.open (List.length_pos_iff.2 hz)
    obtain ⟨m, hm⟩ : ∃ m, l.length = m := ⟨_, rfl⟩
    have HM := Lib.hid hm
    rw [hm] at hc ⊢
    have HR : Hid (∀ i x, l[i]? = some x → w.cell? ⟨b, o + i * 4, none⟩ = some (.string x.s)) := Lib.hid (fun i x hx => hr i x hx 0 _ rfl)
    clear hz hm hr hv
    refine lay_start ?_
    go_enter Tryz.func70, Tryz.ntmps70
    go_wp2_with fail
    go_loopw [5] (fun i wr => ∃ (k : Nat) (d : Ext), k ≤ m ∧ i = .int .i64 k ∧ wr = lay w [.inr d] ∧ idxR p l 0 = idxR p (l.drop k) k) (fun i _ => m - (intOf i).toNat)
    case atStart => exact ⟨0, noExt _, Nat.zero_le _, rfl, (bw_noExt _).symm, rfl⟩
    case round =>
      obtain ⟨k, d, hk, rfl, rfl, hA⟩ := hrel
      have HA := Lib.hid hA
      clear hA
      by_cases hlt : k < m
      · obtain ⟨x, hx⟩ : ∃ x, l[k]? = some x := ⟨_, List.getElem?_eq_getElem (by rw [HM.out]; exact hlt)⟩
        have e0 := HR.out k x hx
        have x1 : (k : Int) < (m : Int) := by omega
        have x0 : (0 : Int) ≤ (k : Int) := by omega
        have hpx := HPn.out x
        cases ho : p x
        · have HN := Lib.hid (idxR_miss hx ho HA.out)
          rw [ho] at hpx
          have t1 := hpx.symm
          clear ho hx hpx
          generalize x.s = xs at *
          go_wp2_with fail
          go_roundw
          case rel => exact ⟨k + 1, d, by omega, by go_num, rfl, HN.out⟩
          case measure => simp [intOf]; omega
        · have HN := Lib.hid (idxR_got hx ho HA.out)
          rw [ho] at hpx
          have t1 := hpx.symm
          clear ho hx hpx
          generalize x.s = xs at *
          go_wp2_with fail
          go_ret
          exact ⟨ret_int HN.out, lay_ex _ _⟩
      · have HN := Lib.hid (idxR_end (k := k) (by rw [HM.out]; omega) HA.out)
        have x1 : ¬ (k : Int) < (m : Int) := by omega
        go_wp2
        go_ret
        exact ⟨ret_int HN.out, lay_ex _ _⟩
end Go.Proofs.YtlkphcjlgbimkaaGreat
/- Valid pages: package page's, with its set of names. -/
namespace Go.Proofs.YtlkphcjlgbimkaaGreat
open Go.RowKit Go.Maps

theorem TksD.open {P : Nat → Prop} {w : World} {v : Value} {l : List TrkV} (h : TksD P w v l) (hl : 0 < l.length) :
    ∃ b o cap, v = .slice (some ⟨b, o, none⟩) l.length cap ∧ (l.length ≤ cap ∧ cap ≤ 9223372036854775807) ∧ b < w.heap.size ∧ P b ∧ ∀ (i : Nat) t, l[i]? = some t → ∃ x : TkW, tkR.wf x ∧ TkD P w x t ∧
      w.cell? ⟨b, o + i * 6, none⟩ = some (.string x.s) ∧ w.cell? ⟨b, o + i * 6 + 1, none⟩ = some (.slice x.ga x.gn x.gc) ∧ w.cell? ⟨b, o + i * 6 + 2, none⟩ = some (.slice x.da x.dn x.dc) ∧
      w.cell? ⟨b, o + i * 6 + 3, none⟩ = some (.int .i64 x.p) ∧ w.cell? ⟨b, o + i * 6 + 4, none⟩ = some (.int .i64 x.q) ∧ w.cell? ⟨b, o + i * 6 + 5, none⟩ = some (.int .i64 x.r) := by
  obtain ⟨ls, h1, h2, h3, h4⟩ := h
  have hwf := h1.wf
  obtain ⟨b, o, cap, rfl, hc, hb, hr⟩ := h1.open (by omega)
  rw [h3] at hc h2 ⊢
  refine ⟨b, o, cap, rfl, hc, hb, h2 b o _ _ rfl hl, fun i t ht => ?_⟩
  have hi : i < ls.length := by rw [h3]; exact (List.getElem?_eq_some_iff.1 ht).1
  have hx : ls[i]? = some ls[i] := List.getElem?_eq_getElem hi
  exact ⟨ls[i], hwf _ (List.getElem_mem hi), h4 i _ t hx ht, hr i _ hx 0 _ rfl, hr i _ hx 1 _ rfl, hr i _ hx 2 _ rfl, hr i _ hx 3 _ rfl, hr i _ hx 4 _ rfl, hr i _ hx 5 _ rfl⟩
theorem TksD.form {P : Nat → Prop} {w : World} {v : Value} {l : List TrkV} (h : TksD P w v l) : ∃ a cap, v = .slice a l.length cap := by
  obtain ⟨ls, h1, h2, h3, h4⟩ := h
  obtain ⟨a, c, e⟩ := h1.form
  exact ⟨a, c, by rw [e, h3]⟩
/-- The place of the first track with a name, or -1. -/
def fndT (l : List TrkV) (s : ByteArray) : Int := idxR (fun t => nmB t.s s) l 0
def TkOk1 (l : List TrkV) (i : Nat) (t : TrkV) : Prop := trkB t = true ∧ fndT l t.s = (i : Int)
/-- A valid page. -/
structure PgOk (p : PgV) : Prop where
  dt : dateB p.y p.m p.d = true
  lo : -300000 ≤ numI p.y p.m p.d
  hi : numI p.y p.m p.d ≤ 300000
  len : p.ts.length ≤ 12
  ok : ∀ (i : Nat) t, p.ts[i]? = some t → TkOk1 p.ts i t
noncomputable def pgB (p : PgV) : Bool := @decide (PgOk p) (Classical.propDecidable _)
theorem pgB_iff {p : PgV} : pgB p = true ↔ PgOk p := by unfold pgB; simp
theorem pgB_no {p : PgV} (h : ¬ PgOk p) : false = pgB p := by cases e : pgB p; rfl; exact absurd (pgB_iff.1 e) h
theorem pgB_yes {p : PgV} (h : PgOk p) : true = pgB p := (pgB_iff.2 h).symm
/-- A name that an earlier track has is not found here first. -/
theorem fnd_early {l : List TrkV} {i : Nat} {t : TrkV} (h : (l.take i).any (fun x => nmB x.s t.s) = true) : fndT l t.s ≠ (i : Int) := by
  obtain ⟨x, hx, hn⟩ := List.any_eq_true.1 h
  obtain ⟨j, hj⟩ := List.mem_iff_getElem?.1 hx
  have hji : j < i := by have := (List.getElem?_eq_some_iff.1 hj).1; rw [List.length_take] at this; omega
  have hlj : l[j]? = some x := by rw [List.getElem?_take, if_pos hji] at hj; exact hj
  intro he
  -- the first place is at most j
  have key : ∀ (m : List TrkV) (k j : Nat), m[j]? = some x → (0 ≤ idxR (fun y => nmB y.s t.s) m k) ∧ idxR (fun y => nmB y.s t.s) m k ≤ ((k + j : Nat) : Int) := by
    intro m
    induction m with
    | nil => intro k j h; simp at h
    | cons y m ih =>
      intro k j h
      unfold idxR
      split
      · omega
      · rename_i hne
        cases j with
        | zero =>
          simp only [List.getElem?_cons_zero, Option.some.injEq] at h
          subst h
          exact absurd hn hne
        | succ j =>
          rw [List.getElem?_cons_succ] at h
          have := ih (k + 1) j h
          rw [show k + (j + 1) = k + 1 + j by omega]
          exact this
  have := (key l 0 j hlj).2
  unfold fndT at he
  rw [he] at this
  omega
theorem nmB_refl (s : ByteArray) : nmB s s = true := by unfold nmB; exact beq_self_eq_true _
/-- A name that no earlier track has is found here first. -/
theorem fnd_here {l : List TrkV} {i : Nat} {t : TrkV} (ht : l[i]? = some t) (h : (l.take i).any (fun x => nmB x.s t.s) = false) : fndT l t.s = (i : Int) := by
  have key : ∀ (m : List TrkV) (k j : Nat), m[j]? = some t → (m.take j).any (fun x => nmB x.s t.s) = false → idxR (fun y => nmB y.s t.s) m k = ((k + j : Nat) : Int) := by
    intro m
    induction m with
    | nil => intro k j h; simp at h
    | cons y m ih =>
      intro k j h hno
      cases j with
      | zero =>
        simp only [List.getElem?_cons_zero, Option.some.injEq] at h
        subst h
        unfold idxR
        rw [if_pos (nmB_refl _)]
        simp
      | succ j =>
        rw [List.getElem?_cons_succ] at h
        rw [List.take_succ_cons, List.any_cons, Bool.or_eq_false_iff] at hno
        unfold idxR
        rw [if_neg (by rw [hno.1]; exact Bool.false_ne_true), ih (k + 1) j h hno.2]
        omega
  have := key l 0 i ht h
  unfold fndT
  rw [this, Nat.zero_add]
theorem setNames (l : List TrkV) (i : Nat) (s : ByteArray) : (((l.take i).map TrkV.s).any fun x => x.toList == s.toList) = (l.take i).any (fun x => nmB x.s s) := by
  rw [List.any_map]; rfl
end Go.Proofs.YtlkphcjlgbimkaaGreat
/- The walk of page.Valid. -/
namespace Go.Proofs.YtlkphcjlgbimkaaGreat
open Go.RowKit Go.Maps

/-- What stands ahead of the tracks' test. -/
def hdB (y m d : Int) (n : Nat) : Bool := decide (dateB y m d = true ∧ -300000 ≤ numI y m d ∧ numI y m d ≤ 300000 ∧ n ≤ 12)
set_option maxHeartbeats 2000000 in
set_option maxRecDepth 100000 in
theorem page_Valid_head (y m d : Int) (a : Option Addr) (n c : Nat) (w : World) (hn : hdB y m d n = false) :
    Calls Tryz.prog 106 #[.agg #[.int .i64 y, .int .i64 m, .int .i64 d, .slice a n c]] w fun e w' => e = .returned (.bool false) ∧ ∃ d, w' = bw w d := by
  have HN := Lib.hid (fun W => cal_Number y m d W)
  unfold hdB at hn
  rw [decide_eq_false_iff_not] at hn
  cases hd : dateB y m d
  · rw [hd] at HN
    rw [if_neg Bool.false_ne_true, if_neg Bool.false_ne_true] at HN
    clear hn
    refine lay_start ?_
    go_enter Tryz.func106, Tryz.ntmps106
    go_wp2_with (go_at_call 108; refine (HN.out _).mono ?_; rintro e w' ⟨rfl, e1, rfl⟩)
    go_ret
    exact ⟨rfl, lay_ex _ _⟩
  · rw [hd] at HN
    rw [if_pos rfl, if_pos rfl] at HN
    have hb := numI_bd hd
    generalize numI y m d = N at *
    have ways : N < -300000 ∨ (-300000 ≤ N ∧ 300000 < N) ∨ (-300000 ≤ N ∧ N ≤ 300000 ∧ 12 < n) := by
      rcases Int.lt_or_le N (-300000) with h1 | h1
      · exact .inl h1
      · rcases Int.lt_or_le 300000 N with h2 | h2
        · exact .inr (.inl ⟨h1, h2⟩)
        · exact .inr (.inr ⟨h1, h2, Nat.lt_of_not_le fun h3 => hn ⟨hd, h1, h2, h3⟩⟩)
    clear hn hd
    rcases ways with h1 | ⟨h1, h2⟩ | ⟨h1, h2, h3⟩
    · refine lay_start ?_
      go_enter Tryz.func106, Tryz.ntmps106
      go_wp2_with (go_at_call 108; refine (HN.out _).mono ?_; rintro e w' ⟨rfl, e1, rfl⟩)
      go_ret
      exact ⟨rfl, lay_ex _ _⟩
    · refine lay_start ?_
      go_enter Tryz.func106, Tryz.ntmps106
      go_wp2_with (go_at_call 108; refine (HN.out _).mono ?_; rintro e w' ⟨rfl, e1, rfl⟩)
      go_ret
      exact ⟨rfl, lay_ex _ _⟩
    · have t3 : decide ((12 : Int) < (n : Int)) = true := decide_eq_true (by omega)
      clear h3
      refine lay_start ?_
      go_enter Tryz.func106, Tryz.ntmps106
      go_wp2_with (go_at_call 108; refine (HN.out _).mono ?_; rintro e w' ⟨rfl, e1, rfl⟩)
      go_ret
      exact ⟨rfl, lay_ex _ _⟩
set_option maxHeartbeats 4000000 in
set_option maxRecDepth 100000 in
theorem page_Valid {P : Nat → Prop} (y m d : Int) (v : Value) (l : List TrkV) (w : World) (hv : TksD P w v l) :
    Calls Tryz.prog 106 #[.agg #[.int .i64 y, .int .i64 m, .int .i64 d, v]] w fun e w' => e = .returned (.bool (pgB ⟨y, m, d, l⟩)) ∧ ∃ d, w' = bw w d := by
  cases hh : hdB y m d l.length
  · obtain ⟨a, c, rfl⟩ := hv.form
    have : false = pgB ⟨y, m, d, l⟩ := pgB_no (fun h => by
      unfold hdB at hh
      rw [decide_eq_false_iff_not] at hh
      exact hh ⟨h.dt, h.lo, h.hi, h.len⟩)
    rw [← this]
    exact page_Valid_head y m d a l.length c w hh
  · unfold hdB at hh
    rw [decide_eq_true_eq] at hh
    obtain ⟨hd, b0, b1, hl⟩ := hh
    have HN := Lib.hid (fun W => cal_Number y m d W)
    rw [hd] at HN
    rw [if_pos rfl, if_pos rfl] at HN
    have HBad : Hid (∀ i t, l[i]? = some t → ¬ TkOk1 l i t → false = pgB ⟨y, m, d, l⟩) := Lib.hid (fun i t ht h => pgB_no fun hp => h (hp.ok i t ht))
    have HAll : Hid ((∀ i t, l[i]? = some t → TkOk1 l i t) → true = pgB ⟨y, m, d, l⟩) := Lib.hid (fun h => pgB_yes ⟨hd, b0, b1, hl, h⟩)
    clear hd
    generalize numI y m d = N at *
    by_cases hz : l = []
    · subst hz
      obtain ⟨a, c, rfl⟩ := hv.form
      have HB := Lib.hid (HAll.out (fun i t ht => by simp at ht))
      refine lay_start ?_
      have hmm := @run_makeMap Tryz.prog
      go_enter Tryz.func106, Tryz.ntmps106
      go_wp2_with (go_at_call 108; refine (HN.out _).mono ?_; rintro e w' ⟨rfl, e1, rfl⟩)
      refine wp_loop_rounds 1 ?_
      rw [rounds_succ]
      go_wp2
      go_ret
      exact ⟨ret_bool HB.out, lay_ex _ _⟩
    · obtain ⟨b, o, c, rfl, hcc, hb, -, hr⟩ := hv.open (List.length_pos_iff.2 hz)
      obtain ⟨q, hq⟩ : ∃ q, l.length = q := ⟨_, rfl⟩
      have HQ := Lib.hid hq
      have HR := Lib.hid hr
      rw [hq] at hcc hl ⊢
      have t3 : decide ((12 : Int) < (q : Int)) = false := decide_eq_false (by omega)
      clear hr hv hz hq
      generalize pgB ⟨y, m, d, l⟩ = RES at *
      refine lay_start ?_
      have hmm := @run_makeMap Tryz.prog
      go_enter Tryz.func106, Tryz.ntmps106
      go_wp2_with (go_at_call 108; refine (HN.out _).mono ?_; rintro e w' ⟨rfl, e1, rfl⟩)
      obtain ⟨B, hB⟩ : ∃ B, posn w (shp [.inr e1, .inl (.cells #[.int .i64 y, .int .i64 m, .int .i64 d, .slice (some ⟨b, o, none⟩) q c] 53 (0, 0))]) = B := ⟨_, rfl⟩
      have HBl : Hid ((lay w [.inr e1, .inl (.cells #[.int .i64 y, .int .i64 m, .int .i64 d, .slice (some ⟨b, o, none⟩) q c] 53 (0, 0))]).heap.size = B) := Lib.hid (by rw [lay_size]; exact hB)
      change posn w [e1.n, 1] = B at hB
      rw [hB]
      clear hB
      go_loopw [34] (fun v34 wr => ∃ (i : Nat) (dd : Ext), i ≤ q ∧ v34 = .int .i64 (i : Int) ∧ wr = lay w [.inr dd, .inr e1, .inl (.cells #[.int .i64 y, .int .i64 m, .int .i64 d, .slice (some ⟨b, o, none⟩) q c] 53 (0, 0))] ∧ OwnS wr B ((l.take i).map TrkV.s) ∧ ∀ (j : Nat) t, j < i → l[j]? = some t → TkOk1 l j t) (fun v34 _ => q - (intOf v34).toNat)
      case atStart =>
        refine ⟨0, _, Nat.zero_le _, rfl, Classical.choose_spec (lay_fold w [_] _), ?_, fun j t hj => absurd hj (Nat.not_lt_zero j)⟩
        have := ownS_new (lay w [.inr e1, .inl (.cells #[.int .i64 y, .int .i64 m, .int .i64 d, .slice (some ⟨b, o, none⟩) q c] 53 (0, 0))])
        rw [HBl.out] at this
        exact this
      case round =>
        obtain ⟨i, dd, hi, rfl, rfl, hO, hA⟩ := hrel
        have HO := Lib.hid hO
        have HA := Lib.hid hA
        clear hO hA
        by_cases hlt : i < q
        · obtain ⟨t, ht⟩ : ∃ t, l[i]? = some t := ⟨_, List.getElem?_eq_getElem (by rw [HQ.out]; exact hlt)⟩
          obtain ⟨x, hw, hD, c0, c1, c2, c3, c4, c5⟩ := HR.out i t ht
          have HT := Lib.hid (fun L => page_validTrack _ t (lay w L) ((hD.trk hw).lay L))
          have hs : t.s.size ≤ maxLen := by rw [← hD.s]; unfold maxLen; exact hw.1
          have HLk := Lib.hid (fun A => ownS_look (ownS_on (A := A) HO.out) t.s hs)
          rw [setNames] at HLk
          have HNo := Lib.hid (HBad.out i t ht)
          have HEarly := Lib.hid (fun h => fnd_early (l := l) (i := i) (t := t) h)
          have HHere := Lib.hid (fun h => fnd_here (l := l) (i := i) (t := t) ht h)
          have HSn : Hid (((l.take i).map TrkV.s) ++ [t.s] = (l.take (i + 1)).map TrkV.s) := Lib.hid (by rw [List.take_add_one, ht]; simp)
          have HNx : Hid (TkOk1 l i t → ∀ (j : Nat) t', j < i + 1 → l[j]? = some t' → TkOk1 l j t') := Lib.hid (fun h j t' hj hj' => by
            by_cases e : j = i
            · subst e; rw [ht] at hj'; cases hj'; exact h
            · exact HA.out j t' (by omega) hj')
          have HLen : Hid (((l.take i).map TrkV.s).length ≤ 1000) := Lib.hid (by rw [List.length_map, List.length_take]; omega)
          have hsx := hD.s
          have x1 : (i : Int) < (q : Int) := by omega
          have x0 : (0 : Int) ≤ (i : Int) := by omega
          have hok : TkOk1 l i t ↔ trkB t = true ∧ fndT l t.s = (i : Int) := Iff.rfl
          have HOk := Lib.hid hok
          clear hD hw hok ht
          obtain ⟨xs, ga, gn, gc, da, dn, dc, xp, xq, xr⟩ := x
          dsimp only at hsx c0 c1 c2 c3 c4 c5
          subst hsx
          change Hid (∀ L, Calls Tryz.prog _ #[.agg #[.string t.s, .slice ga gn gc, .slice da dn dc, .int .i64 xp, .int .i64 xq, .int .i64 xr]] (lay w L) _) at HT
          generalize trkB t = TB at *
          generalize ((l.take i).any fun x => nmB x.s t.s) = EB at *
          cases TB
          · have HB := Lib.hid (HNo.out (fun h => absurd (HOk.out.1 h).1 Bool.false_ne_true))
            generalize t.s = S at *
            go_wp2_with fail
            refine (HT.out _).mono ?_
            rintro e w' ⟨rfl, d2, rfl⟩
            rw [lay_bw]
            go_wp2_with fail
            go_ret
            exact ⟨ret_bool HB.out, lay_ex _ _⟩
          · go_wp2_with fail
            refine (HT.out _).mono ?_
            rintro e w' ⟨rfl, d2, rfl⟩
            rw [lay_bw]
            have hlk := HLk.out [.inr d2, .inl (.cells #[.string t.s, .slice ga gn gc, .slice da dn dc, .int .i64 xp, .int .i64 xq, .int .i64 xr] 57 (0, 0))]
            simp only [List.cons_append, List.nil_append] at hlk
            cases EB
            · have HT2 := Lib.hid (HNx.out (HOk.out.2 ⟨by first | trivial | rfl, HHere.out rfl⟩))
              generalize hS : t.s = S at *
              clear hS
              go_wp2_with (at_mapUpdate; refine put_name rfl _ _ _ rfl (lay w [.inr e1, .inl (.cells #[.int .i64 y, .int .i64 m, .int .i64 d, .slice (some ⟨b, o, none⟩) q c] 53 (0, 0))]) _ B ((l.take i).map TrkV.s) S (lay_belowG (A := [_, _, _])) (Nat.le_of_eq HBl.out) rfl rfl rfl (ownS_on (A := [_, _]) HO.out) hs HLen.out ?_; intro d3 ho3)
              have HO3 := Lib.hid ho3
              clear ho3
              go_wp2_with fail
              go_roundw
              case rel => exact ⟨i + 1, d3, by omega, by go_num, by first | trivial | rfl, by rw [← HSn.out]; exact HO3.out, HT2.out⟩
              case measure => simp [intOf]; omega
            · have HB := Lib.hid (HNo.out (fun h => HEarly.out rfl (HOk.out.1 h).2))
              generalize hS : t.s = S at *
              clear hS
              go_wp2_with fail
              go_ret
              exact ⟨ret_bool HB.out, lay_ex _ _⟩
        · obtain rfl : i = q := by omega
          have HB := Lib.hid (HAll.out (fun j t ht => HA.out j t (by have := (List.getElem?_eq_some_iff.1 ht).1; rw [HQ.out] at this; exact this) ht))
          have x1 : ¬ (i : Int) < (i : Int) := by omega
          go_wp2_with fail
          go_ret
          exact ⟨ret_bool HB.out, lay_ex _ _⟩
end Go.Proofs.YtlkphcjlgbimkaaGreat

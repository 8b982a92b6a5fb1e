/- Contracts and plain laws, several texts in one: Sta2; Pv; Pv2; Pv3; Unq; Sid1 -/
import Derived.Test.YtnnmfdeeicpdlaaGreatProg
import Derived.WalkKit
import Derived.WalkSpells
import Derived.WalkLawsBesides
import Derived.Lib.Hide
import Derived.BigQuiet
import Derived.Test.YtnnmfdeeicpdlaaGreatSAA
import Derived.Test.YtnnmfdeeicpdlaaGreatSAD
import Derived.Test.YtnnmfdeeicpdlaaGreatSAE
import Derived.Test.YtnnmfdeeicpdlaaGreatSAF
import Derived.Test.YtnnmfdeeicpdlaaGreatSAJ
import Derived.Test.YtnnmfdeeicpdlaaGreatSAK
/- Stars: their numbers, the index of a name. -/
namespace Go.Proofs.YtnnmfdeeicpdlaaGreat
set_option maxHeartbeats 1000000
open Go.RowKit Go.Shelf

def numB (a b c : Int) : Bool := decide ((0 ≤ a ∧ a ≤ 215999) ∧ (-54000 ≤ b ∧ b ≤ 54000) ∧ -20 ≤ c ∧ c ≤ 150)
theorem cat_numbers (s : ByteArray) (a b c : Int) (w : World) :
    Calls Tryz.prog 156 #[.agg #[.string s, .int .i64 a, .int .i64 b, .int .i64 c]] w fun e w' => e = .returned (.bool (numB a b c)) ∧ ∃ d, w' = bw w d := by
  refine lay_start ?_
  go_enter Tryz.func156, Tryz.ntmps156
  go_wp2
  all_goals go_ret
  all_goals exact ⟨ret_bool (by first | (simp [numB, *]; done) | (rw [Bool.eq_iff_iff]; simp [numB, *]; done) | (rw [Bool.eq_iff_iff]; simp [numB]; omega)), lay_ex _ _⟩
def nmB (a b : ByteArray) : Bool := a.toList == b.toList
theorem cat_index1 (x : StarV) (s : ByteArray) (b : Nat) (w : World) (hb : b < w.heap.size) (hc : w.cell? ⟨b, 0, none⟩ = some (.string s)) :
    Calls Tryz.prog 218 #[.agg #[.string x.s, .int .i64 x.sha, .int .i64 x.dec, .int .i64 x.mag], .pointer (some ⟨b, 0, none⟩)] w fun e w' => e = .returned (.bool (nmB x.s s)) ∧ ∃ d, w' = bw w d := by
  obtain ⟨xs, x1, x2, x3⟩ := x
  dsimp only
  refine lay_start ?_
  go_enter Tryz.func218, Tryz.ntmps218
  go_wp2
  go_ret
  exact ⟨rfl, lay_ex _ _⟩
def fndS (l : List StarV) (s : ByteArray) : Int := idxR (fun x => nmB x.s s) l 0
theorem cat_index (v : Value) (l : List StarV) (s : ByteArray) (w : World) (hv : SlG stR w v l) :
    Calls Tryz.prog 157 #[v, .string s] w (IdxPost w (fndS l s)) := by
  have eI : ∀ args w, (callFunc 218 args).run Tryz.prog w = .ok (.enter 218 args) w := enters_of Tryz.func218 (by kernel_rfl) rfl
  have H := Lib.hid (st_IndexFunc 218 [.pointer (some ⟨posn w [], 0, none⟩)] (fun x => nmB x.s s) v l (lay w [.inl (.cells #[.string s] 9 (0, 0))]) (hv.lay _) eI (fun x _ d =>
    cat_index1 x s (posn w []) (lay w [.inr d, .inl (.cells #[.string s] 9 (0, 0))]) (by simp only [lay_size, shp, posn, List.sum_cons, List.sum_nil, Ext.n]; omega) (by simp [go_sem]) |>.mono fun e w' ⟨h1, d2, h2⟩ => ⟨h1, _, h2.trans (bw_bw _ _ _)⟩))
  obtain ⟨a, c, rfl⟩ := hv.form
  unfold fndS
  generalize idxR (fun x => nmB x.s s) l 0 = I at *
  generalize l.length = m at *
  clear eI hv
  refine lay_start ?_
  go_enter Tryz.func157, Tryz.ntmps157
  go_wp2_with fail
  refine H.out.mono ?_
  rintro e w' ⟨rfl, d1, rfl⟩
  rw [lay_bw]
  go_wp2
  go_ret
  exact ⟨rfl, lay_ex _ _⟩
theorem ref16_Find (v : Value) (l : List StarV) (s : ByteArray) (w : World) (hv : SlG stR w v l) :
    Calls Tryz.prog 102 #[v, .string s] w (IdxPost w (fndS l s)) := by
  unfold fndS
  obtain ⟨p, hp⟩ : ∃ p : StarV → Bool, (fun x => nmB x.s s) = p := ⟨_, rfl⟩
  rw [hp]
  have HPn : Hid (∀ x : StarV, p x = (x.s.toList == s.toList)) := Lib.hid (fun x => by rw [← hp]; rfl)
  clear hp
  by_cases hz : l = []
  · subst hz
    obtain ⟨a, cap, rfl⟩ := hv.form
    refine lay_start ?_
    go_enter Tryz.func102, Tryz.ntmps102
    go_wp2_with fail
    refine wp_loop_rounds 1 ?_
    rw [rounds_succ]
    go_wp2
    go_ret
    exact ⟨rfl, lay_ex _ _⟩
  · obtain ⟨b, o, cap, rfl, hc, hb, hr⟩ := hv.open (List.length_pos_iff.2 hz)
    obtain ⟨m, hm⟩ : ∃ m, l.length = m := ⟨_, rfl⟩
    have HM := Lib.hid hm
    rw [hm] at hc ⊢
    have HR : Hid (∀ i x, l[i]? = some x → w.cell? ⟨b, o + i * 4, none⟩ = some (.string x.s)) := Lib.hid (fun i x hx => hr i x hx 0 _ rfl)
    clear hz hm hr hv
    refine lay_start ?_
    go_enter Tryz.func102, Tryz.ntmps102
    go_wp2_with fail
    go_loopw [5] (fun i wr => ∃ (k : Nat) (d : Ext), k ≤ m ∧ i = .int .i64 k ∧ wr = lay w [.inr d] ∧ idxR p l 0 = idxR p (l.drop k) k) (fun i _ => m - (intOf i).toNat)
    case atStart => exact ⟨0, noExt _, Nat.zero_le _, rfl, (bw_noExt _).symm, rfl⟩
    case round =>
      obtain ⟨k, d, hk, rfl, rfl, hA⟩ := hrel
      have HA := Lib.hid hA
      clear hA
      by_cases hlt : k < m
      · obtain ⟨x, hx⟩ : ∃ x, l[k]? = some x := ⟨_, List.getElem?_eq_getElem (by rw [HM.out]; exact hlt)⟩
        have e0 := HR.out k x hx
        have x1 : (k : Int) < (m : Int) := by omega
        have x0 : (0 : Int) ≤ (k : Int) := by omega
        have hpx := HPn.out x
        cases ho : p x
        · have HN := Lib.hid (idxR_miss hx ho HA.out)
          rw [ho] at hpx
          have t1 := hpx.symm
          clear ho hx hpx
          generalize x.s = xs at *
          go_wp2_with fail
          go_roundw
          case rel => exact ⟨k + 1, d, by omega, by go_num, rfl, HN.out⟩
          case measure => simp [intOf]; omega
        · have HN := Lib.hid (idxR_got hx ho HA.out)
          rw [ho] at hpx
          have t1 := hpx.symm
          clear ho hx hpx
          generalize x.s = xs at *
          go_wp2_with fail
          go_ret
          exact ⟨ret_int HN.out, lay_ex _ _⟩
      · have HN := Lib.hid (idxR_end (k := k) (by rw [HM.out]; omega) HA.out)
        have x1 : ¬ (k : Int) < (m : Int) := by omega
        go_wp2
        go_ret
        exact ⟨ret_int HN.out, lay_ex _ _⟩
end Go.Proofs.YtnnmfdeeicpdlaaGreat
/- Valid pages: package page's, with its set of names. -/
namespace Go.Proofs.YtnnmfdeeicpdlaaGreat
open Go.RowKit Go.Maps

theorem TksD.open {P : Nat → Prop} {w : World} {v : Value} {l : List TrkV} (h : TksD P w v l) (hl : 0 < l.length) :
    ∃ b o cap, v = .slice (some ⟨b, o, none⟩) l.length cap ∧ (l.length ≤ cap ∧ cap ≤ 9223372036854775807) ∧ b < w.heap.size ∧ P b ∧ ∀ (i : Nat) t, l[i]? = some t → ∃ x : TkW, tkR.wf x ∧ TkD P w x t ∧
      w.cell? ⟨b, o + i * 6, none⟩ = some (.string x.s) ∧ w.cell? ⟨b, o + i * 6 + 1, none⟩ = some (.slice x.ga x.gn x.gc) ∧ w.cell? ⟨b, o + i * 6 + 2, none⟩ = some (.slice x.da x.dn x.dc) ∧
      w.cell? ⟨b, o + i * 6 + 3, none⟩ = some (.int .i64 x.p) ∧ w.cell? ⟨b, o + i * 6 + 4, none⟩ = some (.int .i64 x.q) ∧ w.cell? ⟨b, o + i * 6 + 5, none⟩ = some (.int .i64 x.r) := by
  obtain ⟨ls, h1, h2, h3, h4⟩ := h
  have hwf := h1.wf
  obtain ⟨b, o, cap, rfl, hc, hb, hr⟩ := h1.open (by omega)
  rw [h3] at hc h2 ⊢
  refine ⟨b, o, cap, rfl, hc, hb, h2 b o _ _ rfl hl, fun i t ht => ?_⟩
  have hi : i < ls.length := by rw [h3]; exact (List.getElem?_eq_some_iff.1 ht).1
  have hx : ls[i]? = some ls[i] := List.getElem?_eq_getElem hi
  exact ⟨ls[i], hwf _ (List.getElem_mem hi), h4 i _ t hx ht, hr i _ hx 0 _ rfl, hr i _ hx 1 _ rfl, hr i _ hx 2 _ rfl, hr i _ hx 3 _ rfl, hr i _ hx 4 _ rfl, hr i _ hx 5 _ rfl⟩
theorem TksD.form {P : Nat → Prop} {w : World} {v : Value} {l : List TrkV} (h : TksD P w v l) : ∃ a cap, v = .slice a l.length cap := by
  obtain ⟨ls, h1, h2, h3, h4⟩ := h
  obtain ⟨a, c, e⟩ := h1.form
  exact ⟨a, c, by rw [e, h3]⟩
def fndT (l : List TrkV) (s : ByteArray) : Int := idxR (fun t => nmB t.s s) l 0
def TkOk1 (l : List TrkV) (i : Nat) (t : TrkV) : Prop := trkB t = true ∧ fndT l t.s = (i : Int)
structure PgOk (p : PgV) : Prop where
  dt : dateB p.y p.m p.d = true
  lo : -300000 ≤ numI p.y p.m p.d
  hi : numI p.y p.m p.d ≤ 300000
  len : p.ts.length ≤ 12
  ok : ∀ (i : Nat) t, p.ts[i]? = some t → TkOk1 p.ts i t
noncomputable def pgB (p : PgV) : Bool := @decide (PgOk p) (Classical.propDecidable _)
theorem pgB_iff {p : PgV} : pgB p = true ↔ PgOk p := by unfold pgB; simp
theorem pgB_no {p : PgV} (h : ¬ PgOk p) : false = pgB p := by cases e : pgB p; rfl; exact absurd (pgB_iff.1 e) h
theorem pgB_yes {p : PgV} (h : PgOk p) : true = pgB p := (pgB_iff.2 h).symm
theorem fnd_early {l : List TrkV} {i : Nat} {t : TrkV} (h : (l.take i).any (fun x => nmB x.s t.s) = true) : fndT l t.s ≠ (i : Int) := by
  obtain ⟨x, hx, hn⟩ := List.any_eq_true.1 h
  obtain ⟨j, hj⟩ := List.mem_iff_getElem?.1 hx
  have hji : j < i := by have := (List.getElem?_eq_some_iff.1 hj).1; rw [List.length_take] at this; omega
  have hlj : l[j]? = some x := by rw [List.getElem?_take, if_pos hji] at hj; exact hj
  intro he
  -- the first place is at most j
  have key : ∀ (m : List TrkV) (k j : Nat), m[j]? = some x → (0 ≤ idxR (fun y => nmB y.s t.s) m k) ∧ idxR (fun y => nmB y.s t.s) m k ≤ ((k + j : Nat) : Int) := by
    intro m
    induction m with
    | nil => intro k j h; simp at h
    | cons y m ih =>
      intro k j h
      unfold idxR
      split
      · omega
      · rename_i hne
        cases j with
        | zero =>
          simp only [List.getElem?_cons_zero, Option.some.injEq] at h
          subst h
          exact absurd hn hne
        | succ j =>
          rw [List.getElem?_cons_succ] at h
          have := ih (k + 1) j h
          rw [show k + (j + 1) = k + 1 + j by omega]
          exact this
  have := (key l 0 j hlj).2
  unfold fndT at he
  rw [he] at this
  omega
theorem nmB_refl (s : ByteArray) : nmB s s = true := by unfold nmB; exact beq_self_eq_true _
theorem fnd_here {l : List TrkV} {i : Nat} {t : TrkV} (ht : l[i]? = some t) (h : (l.take i).any (fun x => nmB x.s t.s) = false) : fndT l t.s = (i : Int) := by
  have key : ∀ (m : List TrkV) (k j : Nat), m[j]? = some t → (m.take j).any (fun x => nmB x.s t.s) = false → idxR (fun y => nmB y.s t.s) m k = ((k + j : Nat) : Int) := by
    intro m
    induction m with
    | nil => intro k j h; simp at h
    | cons y m ih =>
      intro k j h hno
      cases j with
      | zero =>
        simp only [List.getElem?_cons_zero, Option.some.injEq] at h
        subst h
        unfold idxR
        rw [if_pos (nmB_refl _)]
        simp
      | succ j =>
        rw [List.getElem?_cons_succ] at h
        rw [List.take_succ_cons, List.any_cons, Bool.or_eq_false_iff] at hno
        unfold idxR
        rw [if_neg (by rw [hno.1]; exact Bool.false_ne_true), ih (k + 1) j h hno.2]
        omega
  have := key l 0 i ht h
  unfold fndT
  rw [this, Nat.zero_add]
theorem setNames (l : List TrkV) (i : Nat) (s : ByteArray) : (((l.take i).map TrkV.s).any fun x => x.toList == s.toList) = (l.take i).any (fun x => nmB x.s s) := by
  rw [List.any_map]; rfl
end Go.Proofs.YtnnmfdeeicpdlaaGreat
/- The walk of page.Valid. -/
namespace Go.Proofs.YtnnmfdeeicpdlaaGreat
set_option maxHeartbeats 4000000
set_option maxRecDepth 100000
open Go.RowKit Go.Maps

def hdB (y m d : Int) (n : Nat) : Bool := decide (dateB y m d = true ∧ -300000 ≤ numI y m d ∧ numI y m d ≤ 300000 ∧ n ≤ 12)
theorem page_Valid_head (y m d : Int) (a : Option Addr) (n c : Nat) (w : World) (hn : hdB y m d n = false) :
    Calls Tryz.prog 65 #[.agg #[.int .i64 y, .int .i64 m, .int .i64 d, .slice a n c]] w fun e w' => e = .returned (.bool false) ∧ ∃ d, w' = bw w d := by
  have HN := Lib.hid (fun W => cal_Number y m d W)
  unfold hdB at hn
  rw [decide_eq_false_iff_not] at hn
  cases hd : dateB y m d
  · rw [hd] at HN
    rw [if_neg Bool.false_ne_true, if_neg Bool.false_ne_true] at HN
    clear hn
    refine lay_start ?_
    go_enter Tryz.func65, Tryz.ntmps65
    go_wp2_with (go_at_call 69; refine (HN.out _).mono ?_; rintro e w' ⟨rfl, e1, rfl⟩)
    go_ret
    exact ⟨rfl, lay_ex _ _⟩
  · rw [hd] at HN
    rw [if_pos rfl, if_pos rfl] at HN
    have hb := numI_bd hd
    generalize numI y m d = N at *
    have ways : N < -300000 ∨ (-300000 ≤ N ∧ 300000 < N) ∨ (-300000 ≤ N ∧ N ≤ 300000 ∧ 12 < n) := by
      rcases Int.lt_or_le N (-300000) with h1 | h1
      · exact .inl h1
      · rcases Int.lt_or_le 300000 N with h2 | h2
        · exact .inr (.inl ⟨h1, h2⟩)
        · exact .inr (.inr ⟨h1, h2, Nat.lt_of_not_le fun h3 => hn ⟨hd, h1, h2, h3⟩⟩)
    clear hn hd
    rcases ways with h1 | ⟨h1, h2⟩ | ⟨h1, h2, h3⟩
    · refine lay_start ?_
      go_enter Tryz.func65, Tryz.ntmps65
      go_wp2_with (go_at_call 69; refine (HN.out _).mono ?_; rintro e w' ⟨rfl, e1, rfl⟩)
      go_ret
      exact ⟨rfl, lay_ex _ _⟩
    · refine lay_start ?_
      go_enter Tryz.func65, Tryz.ntmps65
      go_wp2_with (go_at_call 69; refine (HN.out _).mono ?_; rintro e w' ⟨rfl, e1, rfl⟩)
      go_ret
      exact ⟨rfl, lay_ex _ _⟩
    · have t3 : decide ((12 : Int) < (n : Int)) = true := decide_eq_true (by omega)
      clear h3
      refine lay_start ?_
      go_enter Tryz.func65, Tryz.ntmps65
      go_wp2_with (go_at_call 69; refine (HN.out _).mono ?_; rintro e w' ⟨rfl, e1, rfl⟩)
      go_ret
      exact ⟨rfl, lay_ex _ _⟩
theorem page_Valid {P : Nat → Prop} (y m d : Int) (v : Value) (l : List TrkV) (w : World) (hv : TksD P w v l) :
    Calls Tryz.prog 65 #[.agg #[.int .i64 y, .int .i64 m, .int .i64 d, v]] w fun e w' => e = .returned (.bool (pgB ⟨y, m, d, l⟩)) ∧ ∃ d, w' = bw w d := by
  cases hh : hdB y m d l.length
  · obtain ⟨a, c, rfl⟩ := hv.form
    have : false = pgB ⟨y, m, d, l⟩ := pgB_no (fun h => by
      unfold hdB at hh
      rw [decide_eq_false_iff_not] at hh
      exact hh ⟨h.dt, h.lo, h.hi, h.len⟩)
    rw [← this]
    exact page_Valid_head y m d a l.length c w hh
  · unfold hdB at hh
    rw [decide_eq_true_eq] at hh
    obtain ⟨hd, b0, b1, hl⟩ := hh
    have HN := Lib.hid (fun W => cal_Number y m d W)
    rw [hd] at HN
    rw [if_pos rfl, if_pos rfl] at HN
    have HBad : Hid (∀ i t, l[i]? = some t → ¬ TkOk1 l i t → false = pgB ⟨y, m, d, l⟩) := Lib.hid (fun i t ht h => pgB_no fun hp => h (hp.ok i t ht))
    have HAll : Hid ((∀ i t, l[i]? = some t → TkOk1 l i t) → true = pgB ⟨y, m, d, l⟩) := Lib.hid (fun h => pgB_yes ⟨hd, b0, b1, hl, h⟩)
    clear hd
    generalize numI y m d = N at *
    by_cases hz : l = []
    · subst hz
      obtain ⟨a, c, rfl⟩ := hv.form
      have HB := Lib.hid (HAll.out (fun i t ht => by simp at ht))
      refine lay_start ?_
      have hmm := @run_makeMap Tryz.prog
      go_enter Tryz.func65, Tryz.ntmps65
      go_wp2_with (go_at_call 69; refine (HN.out _).mono ?_; rintro e w' ⟨rfl, e1, rfl⟩)
      refine wp_loop_rounds 1 ?_
      rw [rounds_succ]
      go_wp2
      go_ret
      exact ⟨ret_bool HB.out, lay_ex _ _⟩
    · obtain ⟨b, o, c, rfl, hcc, hb, -, hr⟩ := hv.open (List.length_pos_iff.2 hz)
      obtain ⟨q, hq⟩ : ∃ q, l.length = q := ⟨_, rfl⟩
      have HQ := Lib.hid hq
      have HR := Lib.hid hr
      rw [hq] at hcc hl ⊢
      have t3 : decide ((12 : Int) < (q : Int)) = false := decide_eq_false (by omega)
      clear hr hv hz hq
      generalize pgB ⟨y, m, d, l⟩ = RES at *
      refine lay_start ?_
      have hmm := @run_makeMap Tryz.prog
      go_enter Tryz.func65, Tryz.ntmps65
      go_wp2_with (go_at_call 69; refine (HN.out _).mono ?_; rintro e w' ⟨rfl, e1, rfl⟩)
      obtain ⟨B, hB⟩ : ∃ B, posn w (shp [.inr e1, .inl (.cells #[.int .i64 y, .int .i64 m, .int .i64 d, .slice (some ⟨b, o, none⟩) q c] 108 (0, 0))]) = B := ⟨_, rfl⟩
      have HBl : Hid ((lay w [.inr e1, .inl (.cells #[.int .i64 y, .int .i64 m, .int .i64 d, .slice (some ⟨b, o, none⟩) q c] 108 (0, 0))]).heap.size = B) := Lib.hid (by rw [lay_size]; exact hB)
      change posn w [e1.n, 1] = B at hB
      rw [hB]
      clear hB
      go_loopw [34] (fun v34 wr => ∃ (i : Nat) (dd : Ext), i ≤ q ∧ v34 = .int .i64 (i : Int) ∧ wr = lay w [.inr dd, .inr e1, .inl (.cells #[.int .i64 y, .int .i64 m, .int .i64 d, .slice (some ⟨b, o, none⟩) q c] 108 (0, 0))] ∧ OwnS wr B ((l.take i).map TrkV.s) ∧ ∀ (j : Nat) t, j < i → l[j]? = some t → TkOk1 l j t) (fun v34 _ => q - (intOf v34).toNat)
      case atStart =>
        refine ⟨0, _, Nat.zero_le _, rfl, Classical.choose_spec (lay_fold w [_] _), ?_, fun j t hj => absurd hj (Nat.not_lt_zero j)⟩
        have := ownS_new (lay w [.inr e1, .inl (.cells #[.int .i64 y, .int .i64 m, .int .i64 d, .slice (some ⟨b, o, none⟩) q c] 108 (0, 0))])
        rw [HBl.out] at this
        exact this
      case round =>
        obtain ⟨i, dd, hi, rfl, rfl, hO, hA⟩ := hrel
        have HO := Lib.hid hO
        have HA := Lib.hid hA
        clear hO hA
        by_cases hlt : i < q
        · obtain ⟨t, ht⟩ : ∃ t, l[i]? = some t := ⟨_, List.getElem?_eq_getElem (by rw [HQ.out]; exact hlt)⟩
          obtain ⟨x, hw, hD, c0, c1, c2, c3, c4, c5⟩ := HR.out i t ht
          have HT := Lib.hid (fun L => page_validTrack _ t (lay w L) ((hD.trk hw).lay L))
          have hs : t.s.size ≤ maxLen := by rw [← hD.s]; unfold maxLen; exact hw.1
          have HLk := Lib.hid (fun A => ownS_look (ownS_on (A := A) HO.out) t.s hs)
          rw [setNames] at HLk
          have HNo := Lib.hid (HBad.out i t ht)
          have HEarly := Lib.hid (fun h => fnd_early (l := l) (i := i) (t := t) h)
          have HHere := Lib.hid (fun h => fnd_here (l := l) (i := i) (t := t) ht h)
          have HSn : Hid (((l.take i).map TrkV.s) ++ [t.s] = (l.take (i + 1)).map TrkV.s) := Lib.hid (by rw [List.take_add_one, ht]; simp)
          have HNx : Hid (TkOk1 l i t → ∀ (j : Nat) t', j < i + 1 → l[j]? = some t' → TkOk1 l j t') := Lib.hid (fun h j t' hj hj' => by
            by_cases e : j = i
            · subst e; rw [ht] at hj'; cases hj'; exact h
            · exact HA.out j t' (by omega) hj')
          have HLen : Hid (((l.take i).map TrkV.s).length ≤ 1000) := Lib.hid (by rw [List.length_map, List.length_take]; omega)
          have hsx := hD.s
          have x1 : (i : Int) < (q : Int) := by omega
          have x0 : (0 : Int) ≤ (i : Int) := by omega
          have hok : TkOk1 l i t ↔ trkB t = true ∧ fndT l t.s = (i : Int) := Iff.rfl
          have HOk := Lib.hid hok
          clear hD hw hok ht
          obtain ⟨xs, ga, gn, gc, da, dn, dc, xp, xq, xr⟩ := x
          dsimp only at hsx c0 c1 c2 c3 c4 c5
          subst hsx
          change Hid (∀ L, Calls Tryz.prog _ #[.agg #[.string t.s, .slice ga gn gc, .slice da dn dc, .int .i64 xp, .int .i64 xq, .int .i64 xr]] (lay w L) _) at HT
          generalize trkB t = TB at *
          generalize ((l.take i).any fun x => nmB x.s t.s) = EB at *
          cases TB
          · have HB := Lib.hid (HNo.out (fun h => absurd (HOk.out.1 h).1 Bool.false_ne_true))
            generalize t.s = S at *
            go_wp2_with fail
            refine (HT.out _).mono ?_
            rintro e w' ⟨rfl, d2, rfl⟩
            rw [lay_bw]
            go_wp2_with fail
            go_ret
            exact ⟨ret_bool HB.out, lay_ex _ _⟩
          · go_wp2_with fail
            refine (HT.out _).mono ?_
            rintro e w' ⟨rfl, d2, rfl⟩
            rw [lay_bw]
            have hlk := HLk.out [.inr d2, .inl (.cells #[.string t.s, .slice ga gn gc, .slice da dn dc, .int .i64 xp, .int .i64 xq, .int .i64 xr] 182 (0, 0))]
            simp only [List.cons_append, List.nil_append] at hlk
            cases EB
            · have HT2 := Lib.hid (HNx.out (HOk.out.2 ⟨by first | trivial | rfl, HHere.out rfl⟩))
              generalize hS : t.s = S at *
              clear hS
              go_wp2_with (at_mapUpdate; refine put_name rfl _ _ _ rfl (lay w [.inr e1, .inl (.cells #[.int .i64 y, .int .i64 m, .int .i64 d, .slice (some ⟨b, o, none⟩) q c] 108 (0, 0))]) _ B ((l.take i).map TrkV.s) S (lay_belowG (A := [_, _, _])) (Nat.le_of_eq HBl.out) rfl rfl rfl (ownS_on (A := [_, _]) HO.out) hs HLen.out ?_; intro d3 ho3)
              have HO3 := Lib.hid ho3
              clear ho3
              go_wp2_with fail
              go_roundw
              case rel => exact ⟨i + 1, d3, by omega, by go_num, by first | trivial | rfl, by rw [← HSn.out]; exact HO3.out, HT2.out⟩
              case measure => simp [intOf]; omega
            · have HB := Lib.hid (HNo.out (fun h => HEarly.out rfl (HOk.out.1 h).2))
              generalize hS : t.s = S at *
              clear hS
              go_wp2_with fail
              go_ret
              exact ⟨ret_bool HB.out, lay_ex _ _⟩
        · obtain rfl : i = q := by omega
          have HB := Lib.hid (HAll.out (fun j t ht => HA.out j t (by have := (List.getElem?_eq_some_iff.1 ht).1; rw [HQ.out] at this; exact this) ht))
          have x1 : ¬ (i : Int) < (i : Int) := by omega
          go_wp2_with fail
          go_ret
          exact ⟨ret_bool HB.out, lay_ex _ _⟩
end Go.Proofs.YtnnmfdeeicpdlaaGreat
/- Valid pages in the reference; Find. -/
namespace Go.Proofs.YtnnmfdeeicpdlaaGreat
open Go.RowKit Go.Maps

set_option maxHeartbeats 2000000 in
set_option maxRecDepth 100000 in
theorem ref13_Find {P : Nat → Prop} (y m d : Int) (v : Value) (l : List TrkV) (s : ByteArray) (w : World) (hv : TksD P w v l) :
    Calls Tryz.prog 208 #[.agg #[.int .i64 y, .int .i64 m, .int .i64 d, v], .string s] w (IdxPost w (fndT l s)) := by
  unfold fndT
  obtain ⟨p, hp⟩ : ∃ p : TrkV → Bool, (fun x => nmB x.s s) = p := ⟨_, rfl⟩
  rw [hp]
  have HPn : Hid (∀ x : TrkV, p x = (x.s.toList == s.toList)) := Lib.hid (fun x => by rw [← hp]; rfl)
  clear hp
  by_cases hz : l = []
  · subst hz
    obtain ⟨a, c, rfl⟩ := hv.form
    refine lay_start ?_
    go_enter Tryz.func208, Tryz.ntmps208
    go_wp2_with fail
    refine wp_loop_rounds 1 ?_
    rw [rounds_succ]
    go_wp2
    go_ret
    exact ⟨rfl, lay_ex _ _⟩
  · obtain ⟨b, o, c, rfl, hcc, hb, -, hr⟩ := hv.open (List.length_pos_iff.2 hz)
    obtain ⟨q, hq⟩ : ∃ q, l.length = q := ⟨_, rfl⟩
    have HQ := Lib.hid hq
    have HR := Lib.hid hr
    rw [hq] at hcc ⊢
    clear hr hv hz hq
    refine lay_start ?_
    go_enter Tryz.func208, Tryz.ntmps208
    go_wp2_with fail
    go_loopw [5] (fun v5 wr => ∃ (i : Nat) (dd : Ext), i ≤ q ∧ v5 = .int .i64 (i : Int) ∧ wr = lay w [.inr dd, .inl (.cells #[.int .i64 y, .int .i64 m, .int .i64 d, .slice (some ⟨b, o, none⟩) q c] 108 (0, 0))] ∧ idxR p l 0 = idxR p (l.drop i) i) (fun v5 _ => q - (intOf v5).toNat)
    case atStart => exact ⟨0, noExt _, Nat.zero_le _, rfl, (bw_noExt _).symm, rfl⟩
    case round =>
      obtain ⟨i, dd, hi, rfl, rfl, hA⟩ := hrel
      have HA := Lib.hid hA
      clear hA
      by_cases hlt : i < q
      · obtain ⟨t, ht⟩ : ∃ t, l[i]? = some t := ⟨_, List.getElem?_eq_getElem (by rw [HQ.out]; exact hlt)⟩
        obtain ⟨x, hw, hD, c0, -⟩ := HR.out i t ht
        rw [hD.s] at c0
        have hpx := HPn.out t
        have x1 : (i : Int) < (q : Int) := by omega
        have x0 : (0 : Int) ≤ (i : Int) := by omega
        clear hD hw
        cases ho : p t
        · have HN := Lib.hid (idxR_miss ht ho HA.out)
          rw [ho] at hpx
          have t1 := hpx.symm
          clear ho ht hpx
          generalize t.s = S at *
          go_wp2_with fail
          go_roundw
          case rel => exact ⟨i + 1, dd, by omega, by go_num, rfl, HN.out⟩
          case measure => simp [intOf]; omega
        · have HN := Lib.hid (idxR_got ht ho HA.out)
          rw [ho] at hpx
          have t1 := hpx.symm
          clear ho ht hpx
          generalize t.s = S at *
          go_wp2_with fail
          go_ret
          exact ⟨ret_int HN.out, lay_ex _ _⟩
      · obtain rfl : i = q := by omega
        have HN := Lib.hid (idxR_end (k := i) (by rw [HQ.out]; omega) HA.out)
        have x1 : ¬ (i : Int) < (i : Int) := by omega
        go_wp2
        go_ret
        exact ⟨ret_int HN.out, lay_ex _ _⟩
end Go.Proofs.YtnnmfdeeicpdlaaGreat
/- What a slice reads as is one; closures over pages that are said of the page's value. -/
namespace Go.Proofs.YtnnmfdeeicpdlaaGreat
open Go.RowKit

theorem slG_uniq {α : Type} {R : RecT α} (hR : RecOk R) (hinj : ∀ x y, R.enc x = R.enc y → x = y) {w : World} {v : Value} {l m : List α} (h : SlG R w v l) (k : SlG R w v m) : l = m := by
  obtain ⟨a, c, e1⟩ := h.form
  obtain ⟨a', c', e2⟩ := k.form
  have hlen : l.length = m.length := (Value.slice.inj (e1.symm.trans e2)).2.1
  by_cases hz : l = []
  · subst hz
    exact (List.eq_nil_of_length_eq_zero hlen.symm).symm
  · obtain ⟨b, o, cap, rfl, _, _, hr⟩ := h.open (List.length_pos_iff.2 hz)
    refine List.ext_getElem hlen fun i h1 h2 => hinj _ _ ?_
    refine List.ext_getElem? fun j => ?_
    have hx : l[i]? = some l[i] := List.getElem?_eq_getElem h1
    have hy : m[i]? = some m[i] := List.getElem?_eq_getElem h2
    have hl1 := hR.len l[i]
    have hl2 := hR.len m[i]
    by_cases hj : j < R.k
    · have u1 : (R.enc l[i])[j]? = some (R.enc l[i])[j] := List.getElem?_eq_getElem (by omega)
      have u2 : (R.enc m[i])[j]? = some (R.enc m[i])[j] := List.getElem?_eq_getElem (by omega)
      have a1 := slG_get h hx u1
      have a2 := slG_get k hy u2
      rw [u1, u2, ← a1, ← a2]
    · rw [List.getElem?_eq_none (by omega), List.getElem?_eq_none (by omega)]
theorem sl_uniq {w : World} {v : Value} {l m : List Int} (h : Sl w v l) (k : Sl w v m) : l = m := by
  obtain ⟨a, c, e1, _, _, h3⟩ := h
  obtain ⟨a', c', e2, _, _, k3⟩ := k
  obtain ⟨rfl, hlen, rfl⟩ := Value.slice.inj (e1.symm.trans e2)
  by_cases hz : l = []
  · subst hz
    exact (List.eq_nil_of_length_eq_zero hlen.symm).symm
  · obtain ⟨b, o, rfl, _, hr⟩ := h3 hz
    have hz2 : m ≠ [] := fun h => hz (List.eq_nil_of_length_eq_zero (by rw [hlen, h]; rfl))
    obtain ⟨b', o', e, _, kr⟩ := k3 hz2
    cases e
    refine List.ext_getElem hlen fun i h1 h2 => ?_
    have a1 := hr i h1
    have a2 := kr i h2
    rw [a1] at a2
    simpa [nth, List.getD, h1, h2] using a2
theorem tkInj : ∀ x y, tkR.enc x = tkR.enc y → x = y := by
  rintro ⟨⟩ ⟨⟩ h
  simp only [tkR, List.cons.injEq, Value.string.injEq, Value.slice.injEq, Value.int.injEq, true_and, and_true] at h
  obtain ⟨h1, ⟨h2, h3, h4⟩, ⟨h5, h6, h7⟩, h8, h9, h10⟩ := h
  subst h1 h2 h3 h4 h5 h6 h7 h8 h9 h10
  rfl
theorem tkD_uniq {P : Nat → Prop} {w : World} {x : TkW} {t u : TrkV} (h : TkD P w x t) (k : TkD P w x u) : t = u := by
  obtain ⟨a1, a2, a3, a4, a5, a6⟩ := h
  obtain ⟨b1, b2, b3, b4, b5, b6⟩ := k
  have e2 := sl_uniq a2.1 b2.1
  have e3 := sl_uniq a3.1 b3.1
  cases t; cases u
  simp_all
theorem tksD_uniq {P : Nat → Prop} {w : World} {v : Value} {l m : List TrkV} (h : TksD P w v l) (k : TksD P w v m) : l = m := by
  obtain ⟨ls, h1, _, h3, h4⟩ := h
  obtain ⟨ms, k1, _, k3, k4⟩ := k
  obtain rfl := slG_uniq tkOk tkInj h1 k1
  refine List.ext_getElem (by omega) fun i i1 i2 => ?_
  exact tkD_uniq (h4 i ls[i] l[i] (List.getElem?_eq_getElem (by omega)) (List.getElem?_eq_getElem i1)) (k4 i ls[i] m[i] (List.getElem?_eq_getElem (by omega)) (List.getElem?_eq_getElem i2))
theorem pgD_uniq {P : Nat → Prop} {w : World} {x : PgW} {t u : PgV} (h : PgD P w x t) (k : PgD P w x u) : t = u := by
  obtain ⟨a1, a2, a3, a4⟩ := h
  obtain ⟨b1, b2, b3, b4⟩ := k
  have e := tksD_uniq a4 b4
  cases t; cases u
  simp_all
theorem pg_lift {P : Nat → Prop} {w : World} {v : Value} {l : List PgV} (h : PgsD P w v l) (q : PgV → Bool) : ∃ (ls : List PgW) (p : PgW → Bool), SlG pgR w v ls ∧ ls.any p = l.any q ∧ ∀ x ∈ ls, ∃ t ∈ l, PgD P w x t ∧ p x = q t := by
  obtain ⟨ls, h1, h2, h3, h4⟩ := h
  classical
  have hp : ∀ x ∈ ls, ∃ t ∈ l, PgD P w x t ∧ (decide (∃ t, PgD P w x t ∧ q t = true)) = q t := fun x hx => by
    obtain ⟨i, hi, rfl⟩ := List.getElem_of_mem hx
    have ht := h4 i ls[i] l[i] (List.getElem?_eq_getElem hi) (List.getElem?_eq_getElem (by omega))
    refine ⟨l[i], List.getElem_mem _, ht, ?_⟩
    rw [Bool.eq_iff_iff, decide_eq_true_eq]
    exact ⟨fun ⟨t, a, b⟩ => by rw [pgD_uniq ht a]; exact b, fun h => ⟨_, ht, h⟩⟩
  refine ⟨ls, fun x => decide (∃ t, PgD P w x t ∧ q t = true), h1, ?_, hp⟩
  rw [Bool.eq_iff_iff, List.any_eq_true, List.any_eq_true]
  constructor
  · rintro ⟨x, hx, h⟩
    obtain ⟨t, ht, _, e⟩ := hp x hx
    exact ⟨t, ht, by rw [← e]; exact h⟩
  · rintro ⟨t, ht, h⟩
    obtain ⟨i, hi, rfl⟩ := List.getElem_of_mem ht
    refine ⟨ls[i], List.getElem_mem _, ?_⟩
    exact decide_eq_true ⟨l[i], h4 i ls[i] l[i] (List.getElem?_eq_getElem (by omega)) (List.getElem?_eq_getElem hi), h⟩
set_option maxHeartbeats 1000000 in
theorem alm_New1 {P : Nat → Prop} (x : PgW) (t : PgV) (w : World) (h : PgD P w x t) :
    Calls Tryz.prog 64 #[.agg #[.int .i64 x.y, .int .i64 x.m, .int .i64 x.d, .slice x.ta x.tn x.tc]] w fun e w' => e = .returned (.bool (!pgB t)) ∧ ∃ d, w' = bw w d := by
  obtain ⟨h1, h2, h3, h4⟩ := h
  have HV := Lib.hid (fun L => page_Valid x.y x.m x.d (.slice x.ta x.tn x.tc) t.ts (lay w L) (h4.lay L))
  rw [h1, h2, h3] at HV ⊢
  rw [show (⟨t.y, t.m, t.d, t.ts⟩ : PgV) = t from rfl] at HV
  generalize pgB t = r at *
  generalize t.y = y at *
  generalize t.m = m at *
  generalize t.d = d at *
  clear h1 h2 h3 h4
  generalize x.ta = xa at *
  generalize x.tn = xn at *
  generalize x.tc = xc at *
  cases r
  all_goals
    refine lay_start ?_
    go_enter Tryz.func64, Tryz.ntmps64
    go_wp2_with (go_at_call 65; refine (HV.out _).mono ?_; rintro e w' ⟨rfl, d1, rfl⟩)
    go_ret
    exact ⟨rfl, lay_ex _ _⟩
theorem pgs_bad {P : Nat → Prop} (v : Value) (l : List PgV) (w : World) (hv : PgsD P w v l) :
    Calls Tryz.prog 63 #[v, .func (.func 64) #[] #[]] w fun e w' => e = .returned (.bool (l.any fun p => !pgB p)) ∧ ∃ d, w' = bw w d := by
  obtain ⟨ls, p, h1, h2, h3⟩ := pg_lift hv (fun p => !pgB p)
  rw [← h2]
  have eI : ∀ args w, (callFunc 64 args).run Tryz.prog w = .ok (.enter 64 args) w := enters_of Tryz.func64 (by kernel_rfl) rfl
  refine pg_ContainsFunc 64 [] p v ls w h1 eI fun x hx d => ?_
  obtain ⟨t, _, ht, e⟩ := h3 x hx
  rw [e]
  refine (alm_New1 (P := P) x t (bw w d) ?_).mono fun e w' ⟨a, b, c⟩ => ⟨a, _, c.trans (bw_bw _ _ _)⟩
  exact ⟨ht.y, ht.m, ht.d, ht.ts.lay [.inr d]⟩
end Go.Proofs.YtnnmfdeeicpdlaaGreat
/- The hour angle of Aries at an instant (package sidereal). -/
namespace Go.Proofs.YtnnmfdeeicpdlaaGreat
open Go.RowKit

def ariV (t : Int) : Int := t * 21659138841977 + 58838400000000
def ariF (t : Int) : Int := 5998067 + ariV t / 86400000000000
def ariR (t : Int) : Int := ariV t % 86400000000000
theorem ari_q {n p q r : Nat} (hn : n ≤ 1000000000000000) (ep : p = n * 21659138841977) (eq : q = p / 86400000000000) (er : r = p % 86400000000000) :
    q ≤ 1000000000000000 ∧ r < 86400000000000 ∧ q * 86400000000000 + r = n * 21659138841977 := by
  refine ⟨?_, by omega, by omega⟩
  have h : p ≤ 1000000000000000 * 86400000000000 := by rw [ep]; exact Nat.mul_le_mul hn (by decide)
  have h2 : p / 86400000000000 ≤ 1000000000000000 * 86400000000000 / 86400000000000 := Nat.div_le_div_right h
  rw [Nat.mul_div_cancel _ (by decide)] at h2
  rw [eq]; exact h2
theorem ari_pos {t : Int} {n q r : Nat} (en : (n : Int) = max t (-t)) (h : q * 86400000000000 + r = n * 21659138841977) (hq : q ≤ 1000000000000000) (hr : r < 86400000000000) (ht : ¬ t < 0) :
    (q : Int) * 86400000000000 + ((r : Int) + 58838400000000) = ariV t ∧ (-86400000000000 < (r : Int) + 58838400000000 ∧ (r : Int) + 58838400000000 < 172800000000000 ∧ -2000000000000000 ≤ (q : Int) ∧ (q : Int) ≤ 2000000000000000) := by
  have e : t = (n : Int) := by omega
  clear en
  refine ⟨?_, by clear h; omega⟩
  unfold ariV
  rw [e]
  clear hq hr ht e
  omega
theorem ari_neg {t : Int} {n q r : Nat} (en : (n : Int) = max t (-t)) (h : q * 86400000000000 + r = n * 21659138841977) (hq : q ≤ 1000000000000000) (hr : r < 86400000000000) (ht : t < 0) :
    -(q : Int) * 86400000000000 + (-(r : Int) + 58838400000000) = ariV t ∧ (-86400000000000 < -(r : Int) + 58838400000000 ∧ -(r : Int) + 58838400000000 < 172800000000000 ∧ -2000000000000000 ≤ -(q : Int) ∧ -(q : Int) ≤ 2000000000000000) := by
  have e : t = -(n : Int) := by omega
  clear en
  refine ⟨?_, by clear h; omega⟩
  unfold ariV
  rw [e]
  clear hq hr ht e
  omega
def ariI (t a b : Int) : Prop := a * 86400000000000 + b = ariV t ∧ (-86400000000000 < b ∧ b < 172800000000000 ∧ -2000000000000000 ≤ a ∧ a ≤ 2000000000000000)
theorem ariV_lo {t : Int} (h0 : -1000000000000000 ≤ t) : -2000000000000000 * 21659138841977 ≤ ariV t := by unfold ariV; omega
theorem ariI_wr {t a b : Int} (h : ariI t a b) : wrap64 (a - 1) = a - 1 ∧ wrap64 (b + 86400000000000) = b + 86400000000000 ∧ wrap64 (5998067 + a) = 5998067 + a := by
  obtain ⟨-, h1, h2, h3, h4⟩ := h
  refine ⟨?_, ?_, ?_⟩ <;> (unfold wrap64; omega)
theorem ariI_step {t a b : Int} (h0 : -1000000000000000 ≤ t) (h : ariI t a b) (hb : b < 0) : ariI t (a - 1) (b + 86400000000000) := by
  obtain ⟨h, h1, h2, h3, h4⟩ := h
  have hV := ariV_lo h0
  refine ⟨?_, by clear h; omega, by clear h; omega, ?_, by clear h; omega⟩
  · generalize ariV t = V at *
    clear h1 h2 h3 h4 hV
    omega
  · generalize ariV t = V at *
    clear h2 h4 h0
    omega
theorem ariI_end {t a b : Int} (h : ariI t a b) (hb : ¬ b < 0) : 5998067 + a + b / 86400000000000 = ariF t ∧ b % 86400000000000 = ariR t ∧ wrap64 (b / 86400000000000) = b / 86400000000000 ∧ wrap64 (5998067 + a + b / 86400000000000) = 5998067 + a + b / 86400000000000 := by
  obtain ⟨h, h1, h2, h3, h4⟩ := h
  refine ⟨?_, ?_, ?_, ?_⟩
  · unfold ariF
    rw [← h, Int.add_comm (a * 86400000000000), Int.add_mul_ediv_right _ _ (by decide)]
    clear h
    omega
  · unfold ariR
    rw [← h, Int.add_comm (a * 86400000000000), Int.add_mul_emod_self_right]
  · clear h; unfold wrap64; omega
  · clear h; unfold wrap64; omega
theorem w64 {n : Int} (h : -9223372036854775808 ≤ n ∧ n ≤ 9223372036854775807) : wrap64 n = n := by unfold wrap64; omega
theorem ari_facts {q r : Nat} (hq : q ≤ 1000000000000000) (hr : r < 86400000000000) :
    wrap64 (q : Int) = (q : Int) ∧ wrap64 (r : Int) = (r : Int) ∧ wrap64 (-(q : Int)) = -(q : Int) ∧ wrap64 (-(r : Int)) = -(r : Int) ∧
    wrap64 ((r : Int) + 58838400000000) = (r : Int) + 58838400000000 ∧ wrap64 (-(r : Int) + 58838400000000) = -(r : Int) + 58838400000000 :=
  ⟨w64 (by omega), w64 (by omega), w64 (by omega), w64 (by omega), w64 (by omega), w64 (by omega)⟩
set_option maxHeartbeats 4000000 in
theorem sid_aries (t : Int) (w : World) (h0 : -1000000000000000 ≤ t) (h1 : t ≤ 1000000000000000) :
    Calls Tryz.prog 237 #[.int .i64 t] w fun e w' => e = .returned (.tuple #[.int .i64 (ariF t), .int .i64 (ariR t)]) ∧ ∃ d, w' = bw w d := by
  refine lay_start ?_
  obtain ⟨n, en⟩ : ∃ n : Nat, (n : Int) = max t (-t) := ⟨t.natAbs, by omega⟩
  have hn : n ≤ 1000000000000000 := by omega
  have c1 := Tryz.bits_Mul64 n 21659138841977 (by omega) (by omega) (lay w [])
  obtain ⟨p, ep⟩ : ∃ p, p = n * 21659138841977 := ⟨_, rfl⟩
  rw [← ep] at c1
  obtain ⟨ph, eph⟩ : ∃ ph, ph = p / 18446744073709551616 := ⟨_, rfl⟩
  obtain ⟨pl, epl⟩ : ∃ pl, pl = p % 18446744073709551616 := ⟨_, rfl⟩
  rw [← eph, ← epl] at c1
  obtain ⟨q, eq⟩ : ∃ q, q = p / 86400000000000 := ⟨_, rfl⟩
  obtain ⟨r, er⟩ : ∃ r, r = p % 86400000000000 := ⟨_, rfl⟩
  have c2 := div64' ph pl 86400000000000 q r (by omega) (by omega) (by omega) (by omega) (by omega) (lay w [])
  rw [show ((21659138841977 : Nat) : Int) = 21659138841977 from by decide] at c1
  rw [show ((86400000000000 : Nat) : Int) = 86400000000000 from by decide] at c2
  have en' : mx t (-t) = (n : Int) := by rw [en]; unfold mx; split <;> omega
  have en2 : IntKind.u64.wrap (n : Int) = (n : Int) := Mul64.wrapN _ (by omega)
  obtain ⟨hqb, hrb, hqr⟩ := ari_q hn ep eq er
  obtain ⟨f1, f2, f3, f4, f5, f6⟩ := ari_facts hqb hrb
  have HN := Lib.hid (And.intro (ari_pos en hqr hqb hrb) (ari_neg en hqr hqb hrb))
  clear en ep eph epl eq er hqb hrb hqr
  go_enter Tryz.func237, Tryz.ntmps237
  go_wp2_with (first | (go_at_call 79; refine c1.mono ?_; rintro e w' ⟨rfl, hw⟩; rw [hw]) | (go_at_call 80; refine c2.mono ?_; rintro e w' ⟨rfl, d, rfl⟩))
  all_goals
    go_loopw [9, 10] (fun v9 v10 wr => ∃ a b : Int, v9 = .int .i64 a ∧ v10 = .int .i64 b ∧ wr = lay w [.inr d] ∧ ariI t a b) (fun _ v10 _ => (200000000000000 - intOf v10).toNat)
    case atStart =>
      refine ⟨_, _, rfl, rfl, rfl, ?_⟩
      first | (rw [f1, f5]; exact HN.out.1 (by assumption)) | (rw [f3, f6]; exact HN.out.2 (by assumption))
    case round =>
      obtain ⟨a, b, rfl, rfl, hw, hI⟩ := hrel
      rw [hw]
      clear hw
      obtain ⟨g1, g2, g3⟩ := ariI_wr hI
      have HI := Lib.hid hI
      by_cases hneg : b < 0
      · have HS := Lib.hid (ariI_step h0 hI hneg)
        clear hI
        go_wp2_with fail
        go_roundw
        case rel =>
          refine ⟨_, _, rfl, rfl, by first | trivial | rfl, ?_⟩
          simp only [g1, g2]
          exact HS.out
        case measure =>
          obtain ⟨-, h1, h2, -, -⟩ := HI.out
          simp only [intOf, g2]
          clear g1 g2 g3 f1 f2 f3 f4 f5 f6
          omega
      · obtain ⟨z1, z2, z3, z4⟩ := ariI_end hI hneg
        have HZ := Lib.hid (And.intro z1 z2)
        clear hI z1 z2
        go_wp2_with fail
        go_ret2
        have e1 : wrap64 (5998067 + a + wrap64 (b.tdiv 86400000000000)) = ariF t := by rw [Int.tdiv_eq_ediv_of_nonneg (by first | exact hneg | exact Int.not_lt.1 hneg), z3, z4]; exact HZ.out.1
        refine ⟨?_, lay_ex w _⟩
        rw [e1, HZ.out.2]
        rfl
end Go.Proofs.YtnnmfdeeicpdlaaGreat

/- Contracts and plain laws, several texts in one: Pv2; Ap3; ApP; Ap2 -/
import Derived.Test.YtmmfkleplbofgaaGreatDoorProg
import Derived.WalkKit
import Derived.WalkSpells
import Derived.WalkLawsBesides
import Derived.Lib.Hide
import Derived.BigQuiet
import Derived.Deep.AppendLies
import Derived.Test.YtmmfkleplbofgaaGreatDoorBAA
import Derived.Test.YtmmfkleplbofgaaGreatDoorBAB
import Derived.Test.YtmmfkleplbofgaaGreatDoorBAD
import Derived.Test.YtmmfkleplbofgaaGreatDoorBAE
import Derived.Test.YtmmfkleplbofgaaGreatDoorBAG
import Derived.Test.YtmmfkleplbofgaaGreatDoorBAI
/- The walk of page.Valid. -/
namespace Go.Proofs.YtmmfkleplbofgaaGreatDoor
open Go.RowKit Go.Maps

/-- What stands ahead of the tracks' test. -/
def hdB (y m d : Int) (n : Nat) : Bool := decide (dateB y m d = true ∧ -300000 ≤ numI y m d ∧ numI y m d ≤ 300000 ∧ n ≤ 12)
set_option maxHeartbeats 2000000 in
set_option maxRecDepth 100000 in
theorem page_Valid_head (y m d : Int) (a : Option Addr) (n c : Nat) (w : World) (hn : hdB y m d n = false) :
    Calls Tryz.prog 16 #[.agg #[.int .i64 y, .int .i64 m, .int .i64 d, .slice a n c]] w fun e w' => e = .returned (.bool false) ∧ ∃ d, w' = bw w d := by
  have HN := Lib.hid (fun W => cal_Number y m d W)
  unfold hdB at hn
  rw [decide_eq_false_iff_not] at hn
  cases hd : dateB y m d
  · rw [hd] at HN
    rw [if_neg Bool.false_ne_true, if_neg Bool.false_ne_true] at HN
    clear hn
    refine lay_start ?_
    go_enter Tryz.func16, Tryz.ntmps16
    go_wp2_with (go_at_call 31; refine (HN.out _).mono ?_; rintro e w' ⟨rfl, e1, rfl⟩)
    go_ret
    exact ⟨rfl, lay_ex _ _⟩
  · rw [hd] at HN
    rw [if_pos rfl, if_pos rfl] at HN
    have hb := numI_bd hd
    generalize numI y m d = N at *
    have ways : N < -300000 ∨ (-300000 ≤ N ∧ 300000 < N) ∨ (-300000 ≤ N ∧ N ≤ 300000 ∧ 12 < n) := by
      rcases Int.lt_or_le N (-300000) with h1 | h1
      · exact .inl h1
      · rcases Int.lt_or_le 300000 N with h2 | h2
        · exact .inr (.inl ⟨h1, h2⟩)
        · exact .inr (.inr ⟨h1, h2, Nat.lt_of_not_le fun h3 => hn ⟨hd, h1, h2, h3⟩⟩)
    clear hn hd
    rcases ways with h1 | ⟨h1, h2⟩ | ⟨h1, h2, h3⟩
    · refine lay_start ?_
      go_enter Tryz.func16, Tryz.ntmps16
      go_wp2_with (go_at_call 31; refine (HN.out _).mono ?_; rintro e w' ⟨rfl, e1, rfl⟩)
      go_ret
      exact ⟨rfl, lay_ex _ _⟩
    · refine lay_start ?_
      go_enter Tryz.func16, Tryz.ntmps16
      go_wp2_with (go_at_call 31; refine (HN.out _).mono ?_; rintro e w' ⟨rfl, e1, rfl⟩)
      go_ret
      exact ⟨rfl, lay_ex _ _⟩
    · have t3 : decide ((12 : Int) < (n : Int)) = true := decide_eq_true (by omega)
      clear h3
      refine lay_start ?_
      go_enter Tryz.func16, Tryz.ntmps16
      go_wp2_with (go_at_call 31; refine (HN.out _).mono ?_; rintro e w' ⟨rfl, e1, rfl⟩)
      go_ret
      exact ⟨rfl, lay_ex _ _⟩
set_option maxHeartbeats 4000000 in
set_option maxRecDepth 100000 in
theorem page_Valid {P : Nat → Prop} (y m d : Int) (v : Value) (l : List TrkV) (w : World) (hv : TksD P w v l) :
    Calls Tryz.prog 16 #[.agg #[.int .i64 y, .int .i64 m, .int .i64 d, v]] w fun e w' => e = .returned (.bool (pgB ⟨y, m, d, l⟩)) ∧ ∃ d, w' = bw w d := by
  cases hh : hdB y m d l.length
  · obtain ⟨a, c, rfl⟩ := hv.form
    have : false = pgB ⟨y, m, d, l⟩ := pgB_no (fun h => by
      unfold hdB at hh
      rw [decide_eq_false_iff_not] at hh
      exact hh ⟨h.dt, h.lo, h.hi, h.len⟩)
    rw [← this]
    exact page_Valid_head y m d a l.length c w hh
  · unfold hdB at hh
    rw [decide_eq_true_eq] at hh
    obtain ⟨hd, b0, b1, hl⟩ := hh
    have HN := Lib.hid (fun W => cal_Number y m d W)
    rw [hd] at HN
    rw [if_pos rfl, if_pos rfl] at HN
    have HBad : Hid (∀ i t, l[i]? = some t → ¬ TkOk1 l i t → false = pgB ⟨y, m, d, l⟩) := Lib.hid (fun i t ht h => pgB_no fun hp => h (hp.ok i t ht))
    have HAll : Hid ((∀ i t, l[i]? = some t → TkOk1 l i t) → true = pgB ⟨y, m, d, l⟩) := Lib.hid (fun h => pgB_yes ⟨hd, b0, b1, hl, h⟩)
    clear hd
    generalize numI y m d = N at *
    by_cases hz : l = []
    · subst hz
      obtain ⟨a, c, rfl⟩ := hv.form
      have HB := Lib.hid (HAll.out (fun i t ht => by simp at ht))
      refine lay_start ?_
      have hmm := @run_makeMap Tryz.prog
      go_enter Tryz.func16, Tryz.ntmps16
      go_wp2_with (go_at_call 31; refine (HN.out _).mono ?_; rintro e w' ⟨rfl, e1, rfl⟩)
      refine wp_loop_rounds 1 ?_
      rw [rounds_succ]
      go_wp2
      go_ret
      exact ⟨ret_bool HB.out, lay_ex _ _⟩
    · obtain ⟨b, o, c, rfl, hcc, hb, -, hr⟩ := hv.open (List.length_pos_iff.2 hz)
      obtain ⟨q, hq⟩ : ∃ q, l.length = q := ⟨_, rfl⟩
      have HQ := Lib.hid hq
      have HR := Lib.hid hr
      rw [hq] at hcc hl ⊢
      have t3 : decide ((12 : Int) < (q : Int)) = false := decide_eq_false (by omega)
      clear hr hv hz hq
      generalize pgB ⟨y, m, d, l⟩ = RES at *
      refine lay_start ?_
      have hmm := @run_makeMap Tryz.prog
      go_enter Tryz.func16, Tryz.ntmps16
      go_wp2_with (go_at_call 31; refine (HN.out _).mono ?_; rintro e w' ⟨rfl, e1, rfl⟩)
      obtain ⟨B, hB⟩ : ∃ B, posn w (shp [.inr e1, .inl (.cells #[.int .i64 y, .int .i64 m, .int .i64 d, .slice (some ⟨b, o, none⟩) q c] 26 (0, 0))]) = B := ⟨_, rfl⟩
      have HBl : Hid ((lay w [.inr e1, .inl (.cells #[.int .i64 y, .int .i64 m, .int .i64 d, .slice (some ⟨b, o, none⟩) q c] 26 (0, 0))]).heap.size = B) := Lib.hid (by rw [lay_size]; exact hB)
      change posn w [e1.n, 1] = B at hB
      rw [hB]
      clear hB
      go_loopw [34] (fun v34 wr => ∃ (i : Nat) (dd : Ext), i ≤ q ∧ v34 = .int .i64 (i : Int) ∧ wr = lay w [.inr dd, .inr e1, .inl (.cells #[.int .i64 y, .int .i64 m, .int .i64 d, .slice (some ⟨b, o, none⟩) q c] 26 (0, 0))] ∧ OwnS wr B ((l.take i).map TrkV.s) ∧ ∀ (j : Nat) t, j < i → l[j]? = some t → TkOk1 l j t) (fun v34 _ => q - (intOf v34).toNat)
      case atStart =>
        refine ⟨0, _, Nat.zero_le _, rfl, Classical.choose_spec (lay_fold w [_] _), ?_, fun j t hj => absurd hj (Nat.not_lt_zero j)⟩
        have := ownS_new (lay w [.inr e1, .inl (.cells #[.int .i64 y, .int .i64 m, .int .i64 d, .slice (some ⟨b, o, none⟩) q c] 26 (0, 0))])
        rw [HBl.out] at this
        exact this
      case round =>
        obtain ⟨i, dd, hi, rfl, rfl, hO, hA⟩ := hrel
        have HO := Lib.hid hO
        have HA := Lib.hid hA
        clear hO hA
        by_cases hlt : i < q
        · obtain ⟨t, ht⟩ : ∃ t, l[i]? = some t := ⟨_, List.getElem?_eq_getElem (by rw [HQ.out]; exact hlt)⟩
          obtain ⟨x, hw, hD, c0, c1, c2, c3, c4, c5⟩ := HR.out i t ht
          have HT := Lib.hid (fun L => page_validTrack _ t (lay w L) ((hD.trk hw).lay L))
          have hs : t.s.size ≤ maxLen := by rw [← hD.s]; unfold maxLen; exact hw.1
          have HLk := Lib.hid (fun A => ownS_look (ownS_on (A := A) HO.out) t.s hs)
          rw [setNames] at HLk
          have HNo := Lib.hid (HBad.out i t ht)
          have HEarly := Lib.hid (fun h => fnd_early (l := l) (i := i) (t := t) h)
          have HHere := Lib.hid (fun h => fnd_here (l := l) (i := i) (t := t) ht h)
          have HSn : Hid (((l.take i).map TrkV.s) ++ [t.s] = (l.take (i + 1)).map TrkV.s) := Lib.hid (by rw [List.take_add_one, ht]; simp)
          have HNx : Hid (TkOk1 l i t → ∀ (j : Nat) t', j < i + 1 → l[j]? = some t' → TkOk1 l j t') := Lib.hid (fun h j t' hj hj' => by
            by_cases e : j = i
            · subst e; rw [ht] at hj'; cases hj'; exact h
            · exact HA.out j t' (by omega) hj')
          have HLen : Hid (((l.take i).map TrkV.s).length ≤ 1000) := Lib.hid (by rw [List.length_map, List.length_take]; omega)
          have hsx := hD.s
          have x1 : (i : Int) < (q : Int) := by omega
          have x0 : (0 : Int) ≤ (i : Int) := by omega
          have hok : TkOk1 l i t ↔ trkB t = true ∧ fndT l t.s = (i : Int) := Iff.rfl
          have HOk := Lib.hid hok
          clear hD hw hok ht
          obtain ⟨xs, ga, gn, gc, da, dn, dc, xp, xq, xr⟩ := x
          dsimp only at hsx c0 c1 c2 c3 c4 c5
          subst hsx
          change Hid (∀ L, Calls Tryz.prog _ #[.agg #[.string t.s, .slice ga gn gc, .slice da dn dc, .int .i64 xp, .int .i64 xq, .int .i64 xr]] (lay w L) _) at HT
          generalize trkB t = TB at *
          generalize ((l.take i).any fun x => nmB x.s t.s) = EB at *
          cases TB
          · have HB := Lib.hid (HNo.out (fun h => absurd (HOk.out.1 h).1 Bool.false_ne_true))
            generalize t.s = S at *
            go_wp2_with fail
            refine (HT.out _).mono ?_
            rintro e w' ⟨rfl, d2, rfl⟩
            rw [lay_bw]
            go_wp2_with fail
            go_ret
            exact ⟨ret_bool HB.out, lay_ex _ _⟩
          · go_wp2_with fail
            refine (HT.out _).mono ?_
            rintro e w' ⟨rfl, d2, rfl⟩
            rw [lay_bw]
            have hlk := HLk.out [.inr d2, .inl (.cells #[.string t.s, .slice ga gn gc, .slice da dn dc, .int .i64 xp, .int .i64 xq, .int .i64 xr] 31 (0, 0))]
            simp only [List.cons_append, List.nil_append] at hlk
            cases EB
            · have HT2 := Lib.hid (HNx.out (HOk.out.2 ⟨by first | trivial | rfl, HHere.out rfl⟩))
              generalize hS : t.s = S at *
              clear hS
              go_wp2_with (at_mapUpdate; refine put_name rfl _ _ _ rfl (lay w [.inr e1, .inl (.cells #[.int .i64 y, .int .i64 m, .int .i64 d, .slice (some ⟨b, o, none⟩) q c] 26 (0, 0))]) _ B ((l.take i).map TrkV.s) S (lay_belowG (A := [_, _, _])) (Nat.le_of_eq HBl.out) rfl rfl rfl (ownS_on (A := [_, _]) HO.out) hs HLen.out ?_; intro d3 ho3)
              have HO3 := Lib.hid ho3
              clear ho3
              go_wp2_with fail
              go_roundw
              case rel => exact ⟨i + 1, d3, by omega, by go_num, by first | trivial | rfl, by rw [← HSn.out]; exact HO3.out, HT2.out⟩
              case measure => simp [intOf]; omega
            · have HB := Lib.hid (HNo.out (fun h => HEarly.out rfl (HOk.out.1 h).2))
              generalize hS : t.s = S at *
              clear hS
              go_wp2_with fail
              go_ret
              exact ⟨ret_bool HB.out, lay_ex _ _⟩
        · obtain rfl : i = q := by omega
          have HB := Lib.hid (HAll.out (fun j t ht => HA.out j t (by have := (List.getElem?_eq_some_iff.1 ht).1; rw [HQ.out] at this; exact this) ht))
          have x1 : ¬ (i : Int) < (i : Int) := by omega
          go_wp2_with fail
          go_ret
          exact ⟨ret_bool HB.out, lay_ex _ _⟩
end Go.Proofs.YtmmfkleplbofgaaGreatDoor
/- audit: Page. -/
namespace Go.Proofs.YtmmfkleplbofgaaGreatDoor
open Go.RowKit Go.Maps

/-- The call returns strings that read so, and an error. -/
def PgE (w : World) (c : Int) (L : List ByteArray) (e : Ending) (w' : World) : Prop := ∃ v d, e = .returned (.tuple #[v, .int .i64 c]) ∧ w' = bw w d ∧ SlG strR (bw w d) v L
theorem itoa_dg (i : Nat) (hi : i < 100) (w : World) : Calls Tryz.prog 18 #[.int .i64 (i : Int)] w fun e w' => e = .returned (.string (dgB i)) ∧ w' = w := Tryz.strconv_Itoa_small i hi w
set_option maxHeartbeats 4000000 in
set_option maxRecDepth 100000 in
theorem aud_Page_no {P : Nat → Prop} (y m dy : Int) (v : Value) (l : List TrkV) (w : World) (hv : TksD P w v l) (hp : pgB ⟨y, m, dy, l⟩ = false) :
    Calls Tryz.prog 7 #[.agg #[.int .i64 y, .int .i64 m, .int .i64 dy, v]] w (PgE w 1 []) := by
  have HV := Lib.hid (fun W (h : TksD P W v l) => page_Valid y m dy v l W h)
  have HT := Lib.hid hv
  rw [hp] at HV
  obtain ⟨a, c, rfl⟩ := hv.form
  clear hv
  generalize l.length = n at *
  refine lay_start ?_
  go_enter Tryz.func7, Tryz.ntmps7
  go_wp2_with (go_at_call 16; refine (HV.out _ (HT.out.lay _)).mono ?_; rintro e w' ⟨rfl, e1, rfl⟩; rw [lay_bw])
  obtain ⟨z, hz⟩ := lay_ex w [.inr e1, .inl (.cells #[.int .i64 y, .int .i64 m, .int .i64 dy, .slice a n c] 26 (0, 0))]
  exact bodyPost_ret (v := .tuple #[.slice none 0 0, .int .i64 1]) (by simp [results, Tryz.results7, go_sem]) rfl ⟨_, z, rfl, hz, SlG.nil _ _⟩
set_option maxHeartbeats 4000000 in
set_option maxRecDepth 100000 in
theorem aud_Page_nil {P : Nat → Prop} (y m dy : Int) (v : Value) (w : World) (hv : TksD P w v []) (hp : pgB ⟨y, m, dy, []⟩ = true) :
    Calls Tryz.prog 7 #[.agg #[.int .i64 y, .int .i64 m, .int .i64 dy, v]] w (PgE w 0 []) := by
  have HV := Lib.hid (fun W (h : TksD P W v []) => page_Valid y m dy v [] W h)
  have HT := Lib.hid hv
  rw [hp] at HV
  obtain ⟨a, c, rfl⟩ := hv.form
  clear hv
  refine lay_start ?_
  go_enter Tryz.func7, Tryz.ntmps7
  go_wp2_with (go_at_call 16; refine (HV.out _ (HT.out.lay _)).mono ?_; rintro e w' ⟨rfl, e1, rfl⟩; rw [lay_bw])
  refine wp_loop_rounds 1 ?_
  rw [rounds_succ]
  go_wp2
  obtain ⟨z, hz⟩ := lay_ex w [.inr e1, .inl (.cells #[.int .i64 y, .int .i64 m, .int .i64 dy, .slice a 0 c] 26 (0, 0))]
  exact bodyPost_ret (v := .tuple #[.slice none 0 0, .int .i64 0]) (by simp [results, Tryz.results7, go_sem]) rfl ⟨_, z, rfl, hz, SlG.nil _ _⟩
set_option maxHeartbeats 8000000 in
set_option maxRecDepth 100000 in
theorem aud_Page_ok {P : Nat → Prop} (y m dy : Int) (v : Value) (l : List TrkV) (w : World) (hv : TksD P w v l) (hp : pgB ⟨y, m, dy, l⟩ = true) (hz : l ≠ []) :
    Calls Tryz.prog 7 #[.agg #[.int .i64 y, .int .i64 m, .int .i64 dy, v]] w (PgE w 0 (tsL l)) := by
  have HV := Lib.hid (fun W (h : TksD P W v l) => page_Valid y m dy v l W h)
  have HT := Lib.hid hv
  rw [hp] at HV
  have hok := pgB_iff.1 hp
  have HK : Hid (∀ t ∈ l, trkB t = true) := Lib.hid (fun t ht => by obtain ⟨i, hi⟩ := List.mem_iff_getElem?.1 ht; exact (hok.ok i t hi).1)
  have hlen : l.length ≤ 12 := hok.len
  clear hok hp
  obtain ⟨b, o, c, rfl, hcc, hb, -, hr⟩ := hv.open (List.length_pos_iff.2 hz)
  obtain ⟨q, hq⟩ : ∃ q, l.length = q := ⟨_, rfl⟩
  have HQ := Lib.hid hq
  have HR := Lib.hid hr
  rw [hq] at hcc hlen HV HT ⊢
  clear hr hv hz hq
  refine lay_start ?_
  go_enter Tryz.func7, Tryz.ntmps7
  go_wp2_with (go_at_call 16; refine (HV.out _ (HT.out.lay _)).mono ?_; rintro e w' ⟨rfl, e1, rfl⟩; rw [lay_bw])
  clear HV HT
  go_loopw [4, 20] (fun v4 v20 wr => ∃ (k : Nat) (d0 : Ext), k ≤ q ∧ v20 = .int .i64 (k : Int) ∧ wr = lay w [.inr d0, .inr e1, .inl (.cells #[.int .i64 y, .int .i64 m, .int .i64 dy, .slice (some ⟨b, o, none⟩) q c] 26 (0, 0))] ∧ OwG strR (lay w [.inr d0, .inr e1, .inl (.cells #[.int .i64 y, .int .i64 m, .int .i64 dy, .slice (some ⟨b, o, none⟩) q c] 26 (0, 0))]) (lay w [.inr e1, .inl (.cells #[.int .i64 y, .int .i64 m, .int .i64 dy, .slice (some ⟨b, o, none⟩) q c] 26 (0, 0))]).heap.size v4 (tsL (l.take k))) (fun _ v20 _ => q - (intOf v20).toNat)
  case atStart => exact ⟨0, noExt _, Nat.zero_le _, rfl, (bw_noExt _).symm, OwG.nil _ _ _⟩
  case round =>
    obtain ⟨k, d0, hk, rfl, rfl, hO⟩ := hrel
    have HO := Lib.hid hO
    clear hO
    by_cases hlt : k < q
    · obtain ⟨t, ht⟩ : ∃ t, l[k]? = some t := ⟨_, List.getElem?_eq_getElem (by rw [HQ.out]; exact hlt)⟩
      obtain ⟨x, hw, hD, c0, c1, c2, c3, c4, c5⟩ := HR.out k t ht
      have htk := HK.out t (List.mem_of_getElem? ht)
      have he := trk_giv htk
      obtain ⟨hGb, hDb, hGn, hDn⟩ := trk_lists htk
      have hnm : t.s.size ≤ 20 := (nameB_iff.1 (trkB_iff.1 htk).nm).len
      have hst : tsL (l.take (k + 1)) = tsL (l.take k) ++ (lnL (t.s ++ ghaS) (gaL t) ++ lnL (t.s ++ decS) (deL t)) := tsL_take l k t ht
      have hTl : (tsL (l.take k)).length ≤ 1000 := by
        have h1 := tsL_len (l := l.take k) (fun x hx => HK.out x (List.mem_of_mem_take hx))
        have h2 : (l.take k).length ≤ 12 := by rw [List.length_take]; omega
        omega
      have hsx := hD.s
      have hrx := hD.r
      obtain ⟨xs, ga, gn, gc, da, dn, dc, xp, xq, xr⟩ := x
      dsimp only at hsx hrx c0 c1 c2 c3 c4 c5
      have hg0 := hD.g.1
      have hd0 := hD.d.1
      dsimp only at hg0 hd0
      have HS : Hid (∀ W, Sl W (.slice ga gn gc) t.g → Sl W (.slice da dn dc) t.d → Calls Tryz.prog 17 #[.agg #[.string xs, .slice ga gn gc, .slice da dn dc, .int .i64 xp, .int .i64 xq, .int .i64 xr]] W (SusF W (gaL t) (deL t) 0)) := Lib.hid (fun W h1 h2 => by
        have := aud_SuspectsF xs _ _ t.g t.d xp xq xr W h1 h2
        rw [hrx, he] at this
        rw [hrx]
        exact this)
      have HG0 := Lib.hid hg0
      have HD0 := Lib.hid hd0
      have HST := Lib.hid hst
      have HGB := Lib.hid hGb
      have HDB := Lib.hid hDb
      have x1 : (k : Int) < (q : Int) := by omega
      have x0 : (0 : Int) ≤ (k : Int) := by omega
      subst hsx
      clear hD hw htk he hg0 hd0 hst hGb hDb hrx ht
      generalize gaL t = G at *
      generalize deL t = D at *
      generalize tsL (l.take k) = T at *
      generalize t.g = lg at *
      generalize t.d = ld at *
      generalize t.s = S at *
      go_wp2_with fail
      refine (HS.out _ (HG0.out.lay _) (HD0.out.lay _)).mono ?_
      rintro e w' ⟨v1, v2, d1, rfl, rfl, ⟨hs1, hs2⟩, hf1, hf2⟩
      rw [lay_bw] at hs1 hs2 ⊢
      obtain ⟨a1, k1, rfl, -⟩ := id hs1
      obtain ⟨a2, k2, rfl, -⟩ := id hs2
      obtain ⟨n1, hn1⟩ : ∃ n1, G.length = n1 := ⟨_, rfl⟩
      obtain ⟨n2, hn2⟩ : ∃ n2, D.length = n2 := ⟨_, rfl⟩
      obtain ⟨tb, htb⟩ : ∃ tb, posn w (shp [.inr d0, .inr e1, .inl (.cells #[.int .i64 y, .int .i64 m, .int .i64 dy, .slice (some ⟨b, o, none⟩) q c] 26 (0, 0))]) = tb := ⟨_, rfl⟩
      have hblk : (lay w [.inr d1, .inl (.cells #[.string S, .slice ga gn gc, .slice da dn dc, .int .i64 xp, .int .i64 xq, .int .i64 xr] 31 (0, 0)), .inr d0, .inr e1, .inl (.cells #[.int .i64 y, .int .i64 m, .int .i64 dy, .slice (some ⟨b, o, none⟩) q c] 26 (0, 0))]).heap[posn w (shp [.inr d0, .inr e1, .inl (.cells #[.int .i64 y, .int .i64 m, .int .i64 dy, .slice (some ⟨b, o, none⟩) q c] 26 (0, 0))])]? = some (.cells #[.string S, .slice ga gn gc, .slice da dn dc, .int .i64 xp, .int .i64 xq, .int .i64 xr] 31 (0, 0)) := lay_get w _ 1 _ rfl
      have hab := fun e => Nat.lt_irrefl _ (by have := (HO.out.1.lt tb e).2; rw [lay_size, htb] at this; exact this)
      have hb0 := Bsd.mk hs1 hs2 (Ap.frsh HO.out hf1 (lay_belowG (A := [_])).size) (Ap.frsh HO.out hf2 (lay_belowG (A := [_])).size) (htb ▸ hblk) hab
      have ho0 := owG_on (A := [.inr d1, .inl (.cells #[.string S, .slice ga gn gc, .slice da dn dc, .int .i64 xp, .int .i64 xq, .int .i64 xr] 31 (0, 0))]) HO.out
      change posn w [d0.n, e1.n, 1] = tb at htb
      rw [htb]
      obtain ⟨d9, hd9⟩ := lay_fold w [.inr d1, .inl (.cells #[.string S, .slice ga gn gc, .slice da dn dc, .int .i64 xp, .int .i64 xq, .int .i64 xr] 31 (0, 0)), .inr d0] [.inr e1, .inl (.cells #[.int .i64 y, .int .i64 m, .int .i64 dy, .slice (some ⟨b, o, none⟩) q c] 26 (0, 0))]
      simp only [List.cons_append, List.nil_append] at hd9 ho0
      rw [hd9] at hb0 ho0 ⊢
      rw [hn1, hn2] at hb0 ⊢
      have HB1 := Lib.hid hb0
      have HO1 := Lib.hid ho0
      clear hs1 hs2 hf1 hf2 hblk hab hb0 ho0 hd9 htb HS HG0 HD0
      go_wp2_with fail
      go_loopw [4, 35] (fun v4 v35 wr => ∃ (j : Nat) (dd : Ext), j ≤ n1 ∧ v35 = .int .i64 (j : Int) ∧ wr = lay w [.inr dd, .inr e1, .inl (.cells #[.int .i64 y, .int .i64 m, .int .i64 dy, .slice (some ⟨b, o, none⟩) q c] 26 (0, 0))] ∧ OwG strR (lay w [.inr dd, .inr e1, .inl (.cells #[.int .i64 y, .int .i64 m, .int .i64 dy, .slice (some ⟨b, o, none⟩) q c] 26 (0, 0))]) (lay w [.inr e1, .inl (.cells #[.int .i64 y, .int .i64 m, .int .i64 dy, .slice (some ⟨b, o, none⟩) q c] 26 (0, 0))]).heap.size v4 (T ++ lnL (S ++ ghaS) (G.take j)) ∧ Bsd (lay w [.inr dd, .inr e1, .inl (.cells #[.int .i64 y, .int .i64 m, .int .i64 dy, .slice (some ⟨b, o, none⟩) q c] 26 (0, 0))]) v4 (.slice a1 n1 k1) (.slice a2 n2 k2) G D tb (.cells #[.string S, .slice ga gn gc, .slice da dn dc, .int .i64 xp, .int .i64 xq, .int .i64 xr] 31 (0, 0))) (fun _ v35 _ => n1 - (intOf v35).toNat)
      case atStart => exact ⟨0, d9, Nat.zero_le _, rfl, rfl, by rw [List.take_zero]; show OwG _ _ _ _ (T ++ []); rw [List.append_nil]; exact HO1.out, HB1.out⟩
      case round =>
        obtain ⟨j, d2, hj, rfl, rfl, hO2, hB2⟩ := hrel
        have HO2 := Lib.hid hO2
        have HB2 := Lib.hid hB2
        clear hO2 hB2
        by_cases hlt2 : j < n1
        · have hjl : j < G.length := by omega
          obtain ⟨bb, oo, kk, hv1, -, -, hbb, hcl⟩ := HB2.out.s1.open (by omega)
          simp only [Value.slice.injEq] at hv1
          obtain ⟨rfl, -, rfl⟩ := hv1
          have hc0 := hcl j hjl
          have hx := HGB.out _ (nth_mem hjl)
          have hst2 := lnL_take (S ++ ghaS) G j hjl
          obtain ⟨i, hi⟩ : ∃ i : Nat, nth G j = (i : Int) := ⟨(nth G j).toNat, by omega⟩
          rw [hi] at hc0 hx hst2
          have hln : lnB (S ++ ghaS) (i : Int) = S ++ ghaS ++ dgB i := rfl
          rw [hln] at hst2
          have hds := dgB_size (i := i) (by omega)
          have HI := Lib.hid (fun W => itoa_dg i (by omega) W)
          have hcS : ∀ d', (lay w [.inr d', .inr d2, .inr e1, .inl (.cells #[.int .i64 y, .int .i64 m, .int .i64 dy, .slice (some ⟨b, o, none⟩) q c] 26 (0, 0))]).cell? ⟨tb, 0, none⟩ = some (.string S) := fun d' => (HB2.out.on (A := [.inr d'])).cell 0 _ rfl
          have hlen2 : (T ++ lnL (S ++ ghaS) (G.take j)).length ≤ 1000000000 := by
            have : (G.take j).length ≤ n1 := by rw [List.length_take]; omega
            unfold lnL
            simp only [List.length_append, List.length_map]
            omega
          have hsl : ghaS.size = 5 := rfl
          have hwf : strR.wf (S ++ ghaS ++ dgB i) := by
            show (S ++ ghaS ++ dgB i).size ≤ 9223372036854775807
            rw [ByteArray.size_append, ByteArray.size_append]; omega
          have hl5 : ByteArray.size ⟨#[32, 103, 104, 97, 32]⟩ = 5 := rfl
          have hsz1 : ¬ 9223372036854775807 < S.size + 5 := by omega
          have hsz2 : ¬ 9223372036854775807 < S.size + 5 + (dgB i).size := by omega
          have z0 : (0 : Int) ≤ (j : Int) := by omega
          have z1 : (j : Int) < (n1 : Int) := by omega
          have HST2 := Lib.hid hst2
          clear hst2 hcl hx hi hln hds hsl
          generalize dgB i = D8 at *
          generalize lnL (S ++ ghaS) (G.take j) = L at *
          go_wp2_with fail
          refine region_mixT 8 [0, 0, 0, 0, 0, 0, 0, 1] (by kernel_rfl) (by kernel_rfl) (by kernel_rfl) (by kernel_rfl) (by simp) (by kernel_rfl) ?_
          simp only [List.take_succ_cons, List.take_zero, List.drop_succ_cons, List.drop_zero]
          repeat (first | (refine wpM_quiet (fun K hK => ?_); go_simp; first | (refine hK _ ?_; clear hK K) | (apply Exists.intro; refine ⟨fun _ => ?_, hK _ ?_⟩; (first | (go_at_call 18; exact bqs (HI.out _) ⟨_, (bw_noExt _).symm⟩)); clear hK K)) | (refine wpM_special (fun K hK d => ?_); go_simp; refine hK _ _ (by first | exact lay_in w [_] _ | exact lay_in w [_, _] _ | exact lay_in w [_, _, _] _ | exact lay_in w [_, _, _, _] _ | exact lay_in w [_, _, _, _, _] _ | exact lay_in w [_, _, _, _, _, _] _) ?_; clear hK K))
          refine wpM_nil ?_
          intro d1
          rw [lay_bw]
          refine push_strO rfl _ _ rfl (lay w [.inr e1, .inl (.cells #[.int .i64 y, .int .i64 m, .int .i64 dy, .slice (some ⟨b, o, none⟩) q c] 26 (0, 0))]) _ (S ++ ghaS ++ D8) 9 _ _ _ (lay_belowG (A := [_, _, _, _])) (owG_on (A := [_, _, _]) HO2.out) (lay_get w _ 1 _ rfl) rfl rfl hlen2 hwf ?_
          intro v' d3 hv' hg
          have HV := Lib.hid hv'
          have HB' := Lib.hid (hg.bsd (HB2.out.on (A := [_, _, _])))
          clear hv' hg
          go_wp2_with fail
          go_roundw
          case rel => exact ⟨j + 1, d3, hlt2, by go_num, rfl, by rw [HST2.out, ← List.append_assoc]; exact HV.out, HB'.out⟩
          case measure => simp [intOf]; omega
        · obtain rfl : n1 = j := by omega
          have z1 : ¬ (n1 : Int) < (n1 : Int) := by omega
          have hte : lnL (S ++ ghaS) (G.take n1) = lnL (S ++ ghaS) G := by rw [List.take_of_length_le (by omega)]
          rw [hte] at HO2
          clear hte
          go_wp2_with fail
          go_loopw [4, 51] (fun v4 v51 wr => ∃ (j : Nat) (dd : Ext), j ≤ n2 ∧ v51 = .int .i64 (j : Int) ∧ wr = lay w [.inr dd, .inr e1, .inl (.cells #[.int .i64 y, .int .i64 m, .int .i64 dy, .slice (some ⟨b, o, none⟩) q c] 26 (0, 0))] ∧ OwG strR (lay w [.inr dd, .inr e1, .inl (.cells #[.int .i64 y, .int .i64 m, .int .i64 dy, .slice (some ⟨b, o, none⟩) q c] 26 (0, 0))]) (lay w [.inr e1, .inl (.cells #[.int .i64 y, .int .i64 m, .int .i64 dy, .slice (some ⟨b, o, none⟩) q c] 26 (0, 0))]).heap.size v4 ((T ++ lnL (S ++ ghaS) G) ++ lnL (S ++ decS) (D.take j)) ∧ Bsd (lay w [.inr dd, .inr e1, .inl (.cells #[.int .i64 y, .int .i64 m, .int .i64 dy, .slice (some ⟨b, o, none⟩) q c] 26 (0, 0))]) v4 (.slice a1 n1 k1) (.slice a2 n2 k2) G D tb (.cells #[.string S, .slice ga gn gc, .slice da dn dc, .int .i64 xp, .int .i64 xq, .int .i64 xr] 31 (0, 0))) (fun _ v51 _ => n2 - (intOf v51).toNat)
          case atStart => exact ⟨0, d2, Nat.zero_le _, rfl, rfl, by rw [List.take_zero]; show OwG _ _ _ _ (_ ++ []); rw [List.append_nil]; exact HO2.out, HB2.out⟩
          case round =>
            obtain ⟨j, d4, hj, rfl, rfl, hO4, hB4⟩ := hrel
            have HO4 := Lib.hid hO4
            have HB4 := Lib.hid hB4
            clear hO4 hB4
            by_cases hlt2 : j < n2
            · have hjl : j < D.length := by omega
              obtain ⟨bb, oo, kk, hv1, -, -, hbb, hcl⟩ := HB4.out.s2.open (by omega)
              simp only [Value.slice.injEq] at hv1
              obtain ⟨rfl, -, rfl⟩ := hv1
              have hc0 := hcl j hjl
              have hx := HDB.out _ (nth_mem hjl)
              have hst2 := lnL_take (S ++ decS) D j hjl
              obtain ⟨i, hi⟩ : ∃ i : Nat, nth D j = (i : Int) := ⟨(nth D j).toNat, by omega⟩
              rw [hi] at hc0 hx hst2
              have hln : lnB (S ++ decS) (i : Int) = S ++ decS ++ dgB i := rfl
              rw [hln] at hst2
              have hds := dgB_size (i := i) (by omega)
              have HI := Lib.hid (fun W => itoa_dg i (by omega) W)
              have hcS : ∀ d', (lay w [.inr d', .inr d4, .inr e1, .inl (.cells #[.int .i64 y, .int .i64 m, .int .i64 dy, .slice (some ⟨b, o, none⟩) q c] 26 (0, 0))]).cell? ⟨tb, 0, none⟩ = some (.string S) := fun d' => (HB4.out.on (A := [.inr d'])).cell 0 _ rfl
              have hlen2 : ((T ++ lnL (S ++ ghaS) G) ++ lnL (S ++ decS) (D.take j)).length ≤ 1000000000 := by
                have : (D.take j).length ≤ n2 := by rw [List.length_take]; omega
                unfold lnL
                simp only [List.length_append, List.length_map]
                omega
              have hsl : decS.size = 5 := rfl
              have hwf : strR.wf (S ++ decS ++ dgB i) := by
                show (S ++ decS ++ dgB i).size ≤ 9223372036854775807
                rw [ByteArray.size_append, ByteArray.size_append]; omega
              have hl5 : ByteArray.size ⟨#[32, 100, 101, 99, 32]⟩ = 5 := rfl
              have hsz1 : ¬ 9223372036854775807 < S.size + 5 := by omega
              have hsz2 : ¬ 9223372036854775807 < S.size + 5 + (dgB i).size := by omega
              have z0 : (0 : Int) ≤ (j : Int) := by omega
              have z1 : (j : Int) < (n2 : Int) := by omega
              have HST2 := Lib.hid hst2
              clear hst2 hcl hx hi hln hds hsl
              generalize dgB i = D8 at *
              generalize lnL (S ++ decS) (D.take j) = L at *
              go_wp2_with fail
              refine region_mixT 8 [0, 0, 0, 0, 0, 0, 0, 1] (by kernel_rfl) (by kernel_rfl) (by kernel_rfl) (by kernel_rfl) (by simp) (by kernel_rfl) ?_
              simp only [List.take_succ_cons, List.take_zero, List.drop_succ_cons, List.drop_zero]
              repeat (first | (refine wpM_quiet (fun K hK => ?_); go_simp; first | (refine hK _ ?_; clear hK K) | (apply Exists.intro; refine ⟨fun _ => ?_, hK _ ?_⟩; (first | (go_at_call 18; exact bqs (HI.out _) ⟨_, (bw_noExt _).symm⟩)); clear hK K)) | (refine wpM_special (fun K hK d => ?_); go_simp; refine hK _ _ (by first | exact lay_in w [_] _ | exact lay_in w [_, _] _ | exact lay_in w [_, _, _] _ | exact lay_in w [_, _, _, _] _ | exact lay_in w [_, _, _, _, _] _ | exact lay_in w [_, _, _, _, _, _] _) ?_; clear hK K))
              refine wpM_nil ?_
              intro d1
              rw [lay_bw]
              refine push_strO rfl _ _ rfl (lay w [.inr e1, .inl (.cells #[.int .i64 y, .int .i64 m, .int .i64 dy, .slice (some ⟨b, o, none⟩) q c] 26 (0, 0))]) _ (S ++ decS ++ D8) 9 _ _ _ (lay_belowG (A := [_, _, _, _])) (owG_on (A := [_, _, _]) HO4.out) (lay_get w _ 1 _ rfl) rfl rfl hlen2 hwf ?_
              intro v' d3 hv' hg
              have HV := Lib.hid hv'
              have HB' := Lib.hid (hg.bsd (HB4.out.on (A := [_, _, _])))
              clear hv' hg
              go_wp2_with fail
              go_roundw
              case rel => exact ⟨j + 1, d3, hlt2, by go_num, rfl, by rw [HST2.out, ← List.append_assoc]; exact HV.out, HB'.out⟩
              case measure => simp [intOf]; omega
            · obtain rfl : n2 = j := by omega
              have z1 : ¬ (n2 : Int) < (n2 : Int) := by omega
              have hte : lnL (S ++ decS) (D.take n2) = lnL (S ++ decS) D := by rw [List.take_of_length_le (by omega)]
              rw [hte] at HO4
              clear hte
              go_wp2_with fail
              go_roundw
              case rel => exact ⟨k + 1, d4, hlt, by go_num, rfl, by rw [HST.out, ← List.append_assoc]; exact HO4.out⟩
              case measure => simp [intOf]; omega
    · obtain rfl : k = q := by omega
      have x1 : ¬ (k : Int) < (k : Int) := by omega
      have HTT : Hid (tsL (l.take k) = tsL l) := Lib.hid (by rw [List.take_of_length_le (by rw [HQ.out]; omega)])
      go_wp2_with fail
      obtain ⟨z, hz⟩ := lay_ex w [.inr d0, .inr e1, .inl (.cells #[.int .i64 y, .int .i64 m, .int .i64 dy, .slice (some ⟨b, o, none⟩) k c] 26 (0, 0))]
      have h := HO.out
      rw [HTT.out, hz] at h
      exact bodyPost_ret (v := .tuple #[_, .int .i64 0]) (by simp [results, Tryz.results7, go_sem]) rfl ⟨_, z, rfl, hz, h.sl strOk⟩
end Go.Proofs.YtmmfkleplbofgaaGreatDoor
/- An append of a whole slice of strings to a row of the call's own, what lies elsewhere kept. No function of the program. -/
namespace Go.Proofs.YtmmfkleplbofgaaGreatDoor
open Go.RowKit

theorem push_slS {ops : Array Oper} {rest : List Oper} {o : Oper} {a : Act} {Q : Exit → Act → World → Prop} (hgd : o.guard = none) (s x : Operand)
    (ho : o.op = .call { callee := .builtin .append, args := #[s, x], argTypes := #[33, 33] })
    (W0 : World) (wb : World) (v1 : Value) (l1 : List ByteArray) (A : Option Addr) (n c : Nat) (l2 : List ByteArray) (hw : Below W0.heap.size W0 wb) (hown : OwG strR wb W0.heap.size v1 l1)
    (hsrc : SlG strR wb (.slice A n c) l2) (hA : A = none → c = 0) (hs : a.eval s = v1) (hx : a.eval x = .slice A n c) (hn : l1.length + l2.length ≤ 1000000000)
    (h : ∀ v' d, OwG strR (Go.Proofs.YtmmfkleplbofgaaGreatDoor.bw W0 d) W0.heap.size v' (l1 ++ l2) → (wb.heap.size ≤ (Go.Proofs.YtmmfkleplbofgaaGreatDoor.bw W0 d).heap.size ∧ ∀ k, k < wb.heap.size → v1.ownBlock ≠ some k → (Go.Proofs.YtmmfkleplbofgaaGreatDoor.bw W0 d).heap[k]? = wb.heap[k]?) → wpList Tryz.prog ops Q rest (a.put o.dst v') (Go.Proofs.YtmmfkleplbofgaaGreatDoor.bw W0 d)) :
    wpList Tryz.prog ops Q (o :: rest) a wb := by
  have hR := strOk
  obtain ⟨i, z, hi, hz0, hz1, hz2, hz3⟩ := hR.info
  have hM : maxLen = 9223372036854775807 := by decide
  obtain ⟨a', cap', he, hcc, hwf, hcell⟩ := hsrc
  simp only [Value.slice.injEq] at he
  obtain ⟨rfl, rfl, rfl⟩ := he
  cases A with
  | none =>
    obtain rfl := hA rfl
    have hl2 : l2 = [] := by
      rcases List.eq_nil_or_concat l2 with h | ⟨_, _, h⟩
      · exact h
      · have : l2 ≠ [] := by rw [h]; simp
        obtain ⟨_, _, h, _⟩ := hcell this
        cases h
    subst hl2
    obtain ⟨d, rfl⟩ := bw_of hw
    refine wpList_append_own_none hgd s x strR.S ho W0.heap.size strR.E i strR.k hR.und hi v1 l1.length (l1.flatMap strR.enc) hs hown.1 hx ?_
    exact h v1 d (by rw [List.append_nil]; exact hown) ⟨Nat.le_refl _, fun _ _ _ => rfl⟩
  | some ad =>
    have hb2 : (l1.length + l2.length) * strR.bytes ≤ 1000000000 * 1000 := Nat.mul_le_mul hn hR.small
    refine wpList_append_own wb hgd s x strR.S ho W0.heap.size strR.E i z strR.k strR.bytes hR.und hi hz0 hz1 hz2 hz3 hR.pos v1 l1.length (l1.flatMap strR.enc) hs hown.1 ad l2.length c (l2.flatMap strR.enc) hx (flat_len hR l2) ?_ ?_ (by omega) (by omega) hw.size ?_
    · intro j u hu
      have hj : j < l2.length * strR.k := by have := (List.getElem?_eq_some_iff.1 hu).1; rw [flat_len hR] at this; exact this
      have hne : l2 ≠ [] := by intro e; rw [e] at hj; simp at hj
      obtain ⟨b, o', e, _, hr⟩ := hcell hne
      cases e
      have hq : j / strR.k < l2.length := Nat.div_lt_of_lt_mul (by rw [Nat.mul_comm]; exact hj)
      have hm : j % strR.k < strR.k := Nat.mod_lt _ hR.pos
      have e1 : j = j / strR.k * strR.k + j % strR.k := by rw [Nat.mul_comm]; exact (Nat.div_add_mod j strR.k).symm
      have hx' : l2[j / strR.k]? = some l2[j / strR.k] := List.getElem?_eq_getElem hq
      rw [e1, flat_get hR hx' hm] at hu
      have h3 := hr _ _ hx' _ _ hu
      rw [← e1] at h3
      have hadd : (⟨b, o', none⟩ : Addr).add j = ⟨b, o' + j, none⟩ := by
        unfold Addr.add
        split
        · rename_i h0
          have : j = 0 := by simpa using h0
          subst this; rfl
        · rfl
      rw [hadd]
      exact h3
    · intro u hu
      obtain ⟨y, _, hy⟩ := List.mem_flatMap.1 hu
      exact hR.one y u hy
    · intro v' w' hown' hg _
      obtain ⟨d, hd⟩ := bw_of (w := W0) (w' := w') (hw.grown hg hw.size (fun k hk => (hown.1.lt k hk).1))
      subst hd
      refine h v' d ⟨?_, fun y hy => ?_⟩ ⟨hg.size, fun k hk hne => hg.block k hk (fun e => hne e.symm)⟩
      · rw [List.flatMap_append, List.length_append]; exact hown'
      · rcases List.mem_append.1 hy with hy | hy
        · exact hown.2 y hy
        · exact hwf y hy
/-- A slice of ints beside the row is as it was. -/
theorem sl_keptS {wb w' : World} {v u : Value} {l : List Int} (h : Sl wb u l) (ha : Ap v u l) (hk : wb.heap.size ≤ w'.heap.size ∧ ∀ k, k < wb.heap.size → v.ownBlock ≠ some k → w'.heap[k]? = wb.heap[k]?) : Sl w' u l := by
  obtain ⟨a, c, rfl, h2, h3, h4⟩ := h
  refine ⟨a, c, rfl, h2, h3, fun hl => ?_⟩
  obtain ⟨b, o, rfl, h5, h6⟩ := h4 hl
  exact ⟨b, o, rfl, Nat.lt_of_lt_of_le h5 hk.1, fun i hi => (cell_keep (hk.2 b h5 (ha hl b rfl))).trans (h6 i hi)⟩
end Go.Proofs.YtmmfkleplbofgaaGreatDoor
/- The reference's lines. -/
namespace Go.Proofs.YtmmfkleplbofgaaGreatDoor
open Go.RowKit

theorem nth_memS {l : List Int} {i : Nat} (h : i < l.length) : nth l i ∈ l := by unfold nth; simp [List.getD, h]
/-- The call returns a row of its own that holds these strings, in a world that extends the one before. -/
def StrW (w : World) (l : List ByteArray) (e : Ending) (w' : World) : Prop := ∃ v d, e = .returned v ∧ w' = bw w d ∧ OwG strR (bw w d) w.heap.size v l
set_option maxHeartbeats 1000000 in
set_option maxRecDepth 100000 in
theorem ref_lines (b : ByteArray) (v : Value) (l : List Int) (w : World) (hs : Sl w v l) (hb : b.size ≤ 1000) (hl : ∀ x ∈ l, 0 ≤ x ∧ x < 100) (hn : l.length ≤ 100) :
    Calls Tryz.prog 20 #[.string b, v] w (StrW w (lnL b l)) := by
  obtain ⟨a, cap, rfl, hc, h0, hr⟩ := hs
  obtain ⟨m, hm⟩ : ∃ m, l.length = m := ⟨_, rfl⟩
  have HM := Lib.hid hm
  have HL := Lib.hid hl
  have HR := Lib.hid hr
  have HW := Lib.hid (fun x hx => lnL_wf hb hl (lnB b x) (List.mem_map.2 ⟨x, hx, rfl⟩))
  rw [hm] at hc hn ⊢
  clear hm hl hr h0
  refine lay_start ?_
  go_enter Tryz.func20, Tryz.ntmps20
  go_wp2_with fail
  go_loopw [5, 6] (fun v5 v6 wr' => ∃ (k : Nat) (d : Ext), k ≤ m ∧ v6 = .int .i64 (k : Int) ∧ wr' = lay w [.inr d] ∧ OwG strR (lay w [.inr d]) (lay w []).heap.size v5 (lnL b (l.take k))) (fun _ v6 _ => m - (intOf v6).toNat)
  case atStart => exact ⟨0, noExt _, Nat.zero_le _, rfl, (bw_noExt _).symm, OwG.nil _ _ _⟩
  case round =>
    obtain ⟨k, d, hk, rfl, rfl, hO⟩ := hrel
    by_cases hlt : k < m
    · have hkl : k < l.length := by rw [HM.out]; exact hlt
      obtain ⟨bb, o, rfl, hbb, hcl⟩ := HR.out (List.length_pos_iff.1 (by omega))
      have hst := lnL_take b l k hkl
      have hx := HL.out _ (nth_memS hkl)
      have hwf := HW.out _ (nth_memS hkl)
      have hlen : (lnL b (l.take k)).length ≤ 1000000000 := by unfold lnL; rw [List.length_map, List.length_take]; omega
      obtain ⟨i, hi⟩ : ∃ i : Nat, nth l k = (i : Int) := ⟨(nth l k).toNat, by omega⟩
      have hc0 := hcl k hkl
      rw [hi] at hst hx hwf hc0
      have hc1 : (lay w [.inr d]).cell? ⟨bb, o + k, none⟩ = some (.int .i64 (i : Int)) := ((lay_extends w [.inr d]).cell (p := ⟨bb, o + k, none⟩) hbb).trans hc0
      have hds := dgB_size (i := i) (by omega)
      have hsz : (b.size : Int) + ((dgB i).size : Int) ≤ 9223372036854775807 := by omega
      have HD := Lib.hid (fun W => ref_decimal i (by omega) W)
      have x0 : (0 : Int) ≤ (k : Int) := by omega
      have x1 : (k : Int) < (m : Int) := by omega
      have HST := Lib.hid hst
      have HO := Lib.hid hO
      clear hst hO hc0 hcl hx hi
      have hln : lnB b (i : Int) = b ++ dgB i := rfl
      rw [hln] at HST hwf
      generalize lnL b (l.take k) = L at *
      generalize dgB i = D at *
      go_wp2_with (first | (go_at_call 37; refine (HD.out _).mono ?_; rintro e w' ⟨rfl, rfl⟩) | (at_builtin; refine push_rec strOk rfl _ _ rfl (lay w []) _ (b ++ D) #[.string (b ++ D)] 9 _ _ L (lay_belowG (A := [_, _])) (owG_on (A := [_]) HO.out) (lay_get w _ 0 _ rfl) rfl rfl rfl hlen hwf ?_; intro v' d' hv'; have HV := Lib.hid hv'; clear hv'))
      go_roundw
      case rel => exact ⟨k + 1, d', hlt, by go_num, rfl, by rw [HST.out]; exact HV.out⟩
      case measure => simp [intOf]; omega
    · obtain rfl : k = m := by omega
      have x1 : ¬ (k : Int) < (k : Int) := by omega
      have HO := Lib.hid hO
      have HT : Hid (lnL b (l.take k) = lnL b l) := Lib.hid (by rw [List.take_of_length_le (by rw [HM.out]; omega)])
      clear hO
      go_wp2
      go_ret
      exact ⟨_, d, rfl, rfl, by rw [← HT.out]; exact HO.out⟩
end Go.Proofs.YtmmfkleplbofgaaGreatDoor

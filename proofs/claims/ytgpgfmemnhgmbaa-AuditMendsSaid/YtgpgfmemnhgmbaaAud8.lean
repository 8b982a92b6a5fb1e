/- audit: repairs. -/
import Derived.Test.YtgpgfmemnhgmbaaProg
import Derived.Test.YtgpgfmemnhgmbaaLay
import Derived.Test.YtgpgfmemnhgmbaaRegion
import Derived.Test.YtgpgfmemnhgmbaaMix
import Derived.WalkKit
import Derived.WalkSpells
import Derived.WalkLawsBesides
import Derived.Lib.Hide
import Derived.BigQuiet
import Derived.Test.YtgpgfmemnhgmbaaPlain
import Derived.Test.YtgpgfmemnhgmbaaAngle
import Derived.Test.YtgpgfmemnhgmbaaAud7
namespace Go.Proofs.Ytgpgfmemnhgmbaa
open Go.RowKit

theorem lay_setLow {W : World} {g i : Nat} {v : Value} (hg : g < W.heap.size) : ∀ A : List (Obj ⊕ Ext), (lay W A).setCell ⟨g, i, none⟩ v = lay (W.setCell ⟨g, i, none⟩ v) A
  | [] => rfl
  | .inl o :: A => by
    have ih := lay_setLow (v := v) (i := i) hg A
    show (World.alloc (lay W A) o).setCell _ _ = (lay (W.setCell ⟨g, i, none⟩ v) A).alloc o
    rw [← ih]
    have h2 : g < (lay W A).heap.size := Nat.lt_of_lt_of_le hg (lay_extends W A).size
    generalize lay W A = X at *
    simp only [World.alloc, World.setCell]
    congr 1
    apply Array.ext_getElem?
    intro k
    simp only [Array.getElem?_modify, Array.getElem?_push, Array.size_modify]
    by_cases hk : g = k
    · subst hk; simp [Nat.ne_of_lt h2]
    · simp [hk]
  | .inr d :: A => by
    have ih := lay_setLow (v := v) (i := i) hg A
    show (bw (lay W A) d).setCell _ _ = bw (lay (W.setCell ⟨g, i, none⟩ v) A) d
    rw [← ih]
    exact bw_setCell _ _ _ _ _ (Nat.lt_of_lt_of_le hg (lay_extends W A).size)
theorem low_store {w : World} {d : Ext} {B : List (Obj ⊕ Ext)} {g i : Nat} {v : Value} (h1 : (lay w B).heap.size ≤ g) (h2 : g < (lay w (.inr d :: B)).heap.size) :
    ∃ d', ∀ A, (lay w (A ++ .inr d :: B)).setCell ⟨g, i, none⟩ v = lay w (A ++ .inr d' :: B) := by
  obtain ⟨d', hd⟩ := bw_store (d := d) (i := i) (v := v) h1
  refine ⟨d', fun A => ?_⟩
  rw [lay_app, lay_app, lay_setLow h2]
  congr 1
theorem lay_size_inr (w : World) (d : Ext) (B : List (Obj ⊕ Ext)) : (lay w (.inr d :: B)).heap.size = (lay w B).heap.size + d.n := by
  show (bw _ d).heap.size = _
  simp [bw, Ext.n]
theorem Ow.setLow {w : World} {base g i : Nat} {v u : Value} {l : List Int} (h : Ow w base v l) (hg : g < base) : Ow (w.setCell ⟨g, i, none⟩ u) base v l := ⟨ownsRow_setCell_below h.1 hg u, h.2⟩
def loA (at_ : Nat) : Nat := max (at_ - 1) 1
def hiA (at_ n : Nat) : Nat := min (at_ + 2) (n - 1)
theorem loA_mx (at_ : Nat) : mx ((at_ : Int) - 1) 1 = (loA at_ : Int) := by unfold mx loA; split <;> omega
theorem hiA_mn (at_ n : Nat) (h : 1 ≤ n) : mn ((at_ : Int) + 2) ((n : Int) - 1) = (hiA at_ n : Int) := by unfold mn hiA; split <;> omega
def farB (at_ : Nat) (x : Int) : Bool := decide (x < (at_ : Int) - 1 ∨ (at_ : Int) + 1 < x)
def fitB (wr : Bool) (l : List Int) (bend : Int) (at_ : Nat) (x : Int) : Bool := (badL wr (l.set at_ x) bend (loA at_) (hiA at_ l.length)).isEmpty
/-- What repairs returns. -/
def repL (wr : Bool) (l : List Int) (bend : Int) (at_ : Nat) : List Int :=
  if (badL wr l bend 1 (l.length - 1)).any (farB at_) = true then [] else (once (rawL wr l bend at_)).filter (fitB wr l bend at_)
theorem raw_perm {wr : Bool} {l : List Int} {bend : Int} {at_ : Nat} {x : Int} (h : x ∈ rawL wr l bend at_) : permB wr x = true := by
  have key : ∀ {F : Int → Int} {f : Int} {j : Nat}, x ∈ addL wr F f j → permB wr x = true := fun h => by
    obtain ⟨i, _, h⟩ := mem_addL.1 h
    exact (mem_addK.1 h).2.1
  unfold rawL at h
  split at h
  · exact key h
  · split at h
    · exact key h
    · rcases List.mem_append.1 h with h | h
      · exact key h
      · split at h
        · exact key h
        · exact absurd h (List.not_mem_nil)
theorem nth_take_filter (l : List Int) (p : Int → Bool) (k : Nat) (h : k < l.length) : (l.take (k + 1)).filter p = (l.take k).filter p ++ if p (nth l k) = true then [nth l k] else [] := by
  rw [List.take_succ_eq_append_getElem h, List.filter_append]
  congr 1
  have e : nth l k = l[k] := by unfold nth; simp [List.getD, h]
  rw [e]
  simp only [List.filter_cons, List.filter_nil]
theorem filter_len_le (l : List Int) (p : Int → Bool) (k : Nat) : ((l.take k).filter p).length ≤ l.length := Nat.le_trans (List.length_filter_le _ _) (by rw [List.length_take]; omega)
theorem raw_len {wr : Bool} {l : List Int} {bend : Int} {at_ : Nat} (hg : Giv wr l) (b0 : 0 ≤ bend) (b1 : bend ≤ 1000) : (rawL wr l bend at_).length ≤ 10000 := by
  have hn := hg.n3
  unfold rawL
  split
  · have := addL_len wr (fun x => nth l (at_ - 2 + 1) + x) (stp wr l (at_ - 2) - (bend + 2)) (cntM bend)
    unfold raw1; unfold cntM at *; omega
  · split
    · have := addL_len wr (fun x => nth l (at_ + 1) - x) (stp wr l (at_ + 1) - (bend + 2)) (cntM bend)
      unfold raw2; unfold cntM at *; omega
    · have fb := frm_bd (hg.perm 2 (by omega)) (hg.perm 0 (by omega))
      have hb1 := half_bd (s := frm wr (nth l 2 - nth l 0)) b0 b1 ⟨by omega, by omega⟩
      have hb2 := half_bd (s := frm wr (nth l 2 - nth l 0) + 216000) b0 b1 ⟨by omega, by omega⟩
      unfold raw3
      generalize frm wr (nth l 2 - nth l 0) = S at *
      have h1 := addL_len wr (fun x => nth l 0 + x) (half1 S bend) (cntH S bend)
      have h2 := addL_len wr (fun x => nth l 0 + x) (half1 (S + 216000) bend) (cntH (S + 216000) bend)
      have hc1 : cntH S bend ≤ 3000 := by unfold cntH; omega
      have hc2 : cntH (S + 216000) bend ≤ 3000 := by unfold cntH; omega
      rw [List.length_append]
      split
      · omega
      · simp only [List.length_nil]; omega
set_option maxHeartbeats 1000000 in
set_option maxRecDepth 100000 in
theorem aud_repairs (v : Value) (l : List Int) (wr : Bool) (bend : Int) (at_ : Nat) (w : World) (hs : Sl w v l) (hg : Giv wr l) (b0 : 0 ≤ bend) (b1 : bend ≤ 1000) (ha : at_ < l.length) :
    Calls Try.prog 33 #[.agg #[v, .bool wr], .int .i64 bend, .int .i64 (at_ : Int)] w (Rw w (repL wr l bend at_)) := by
  have hn := hg.n1000
  have hn3 := hg.n3
  have eI : ∀ args w, (callFunc 44 args).run Try.prog w = .ok (.enter 44 args) w := enters_of Try.func44 (by kernel_rfl) rfl
  have HBad := Lib.hid (fun W (h : Sl W v l) => aud_bad v l wr bend 0 (l.length : Int) 1 (l.length - 1) W h hg b0 b1 (by decide) (by unfold mn; split <;> omega))
  have HW := Lib.hid (fun W (h : Sl W v l) => aud_with v l wr at_ 0 W h ha hn (by decide))
  have HCa := Lib.hid (fun W (h : Sl W v l) => aud_candidates v l wr bend at_ W h hg b0 b1 ha)
  have HS := Lib.hid hs
  obtain ⟨b, o, cap, rfl, hc, -, hb, hr⟩ := hs.open (by omega)
  have HCF := Lib.hid (fun (vb : Value) (db : Ext) hvb => sl_ContainsFunc 44 (.pointer (some ⟨posn w [1], 0, none⟩)) (farB at_) vb (badL wr l bend 1 (l.length - 1))
    (lay w [.inr db, .inl (.cells #[.int .i64 (at_ : Int)] 3 (0, 0)), .inl (.cells #[.slice (some ⟨b, o, none⟩) l.length cap, .bool wr] 57 (0, 0))]) hvb eI (fun i _ d =>
    aud_repairs1 (posn w [1]) (at_ : Int) _ (lay w [.inr d, .inr db, .inl (.cells #[.int .i64 (at_ : Int)] 3 (0, 0)), .inl (.cells #[.slice (some ⟨b, o, none⟩) l.length cap, .bool wr] 57 (0, 0))]) (by simp only [lay_size, shp, posn, List.sum_cons, List.sum_nil, Ext.n]; omega) (by simp [go_sem]) (by omega) (by omega) |>.mono fun e w' ⟨h1, d2, h2⟩ => ⟨h1, _, h2.trans (bw_bw _ _ _)⟩))
  obtain ⟨m, hm⟩ : ∃ m, l.length = m := ⟨_, rfl⟩
  have hR : repL wr l bend at_ = if (badL wr l bend 1 (m - 1)).any (farB at_) = true then [] else (once (rawL wr l bend at_)).filter (fitB wr l bend at_) := by rw [← hm]; rfl
  rw [hR]
  rw [hm] at HBad HW HCa HS HCF hn hn3 hc ha ⊢
  have HM := Lib.hid hm
  have HG := Lib.hid hg
  clear eI hs hg hr hm hR
  cases hany : (badL wr l bend 1 (m - 1)).any (farB at_)
  · rw [if_neg (by simp)]
    rw [hany] at HCF
    clear hany
    refine lay_start ?_
    go_enter Try.func33, Try.ntmps33
    go_wp2_with fail
    refine (HBad.out _ (HS.out.lay _)).mono ?_
    rintro e w' ⟨vb, db, rfl, rfl, hvb⟩
    have HCF' := Lib.hid (HCF.out vb db hvb.sl)
    rw [lay_bw]
    clear hvb
    go_wp2_with fail
    refine HCF'.out.mono ?_
    rintro e w' ⟨rfl, d, rfl⟩
    have hfit : ∀ x, fitB wr l bend at_ x = (badL wr (l.set at_ x) bend (loA at_) (hiA at_ m)).isEmpty := fun x => by rw [← HM.out]; rfl
    have hCp : ∀ i, i < (once (rawL wr l bend at_)).length → permB wr (nth (once (rawL wr l bend at_)) i) = true := fun i hi => raw_perm (mem_once.1 (nth_mem hi))
    have hCl : (once (rawL wr l bend at_)).length ≤ 10000 := Nat.le_trans (once_len _) (raw_len HG.out b0 b1)
    have HFit := Lib.hid hfit
    have HCp := Lib.hid hCp
    clear hfit hCp HCF HCF' HBad
    generalize once (rawL wr l bend at_) = C at *
    go_wp2_with fail
    refine (HW.out _ (HS.out.lay _)).mono ?_
    rintro e w' ⟨vx, dw, rfl, rfl, hx⟩
    have hsl : (l.set at_ 0).length = m := by rw [List.length_set]; exact HM.out
    obtain ⟨g, c, rfl, hg1, hg2, hg3, hg4⟩ := hx.form1 (by rw [hsl]; omega)
    rw [hsl] at hx hg3 ⊢
    rw [lay_bw] at hx hg2 ⊢
    have hxs : ∀ x, (l.set at_ 0).set at_ x = l.set at_ x := fun x => List.set_set ..
    have HX := Lib.hid hx
    have HXS := Lib.hid hxs
    have HSL := Lib.hid hsl
    clear hx hxs hsl
    generalize l.set at_ 0 = lx0 at *
    have y0 : (0 : Int) ≤ (at_ : Int) := by omega
    have y1 : (at_ : Int) < (m : Int) := by omega
    have w1 : IntKind.i64.wrap ((at_ : Int) - 1) = (at_ : Int) - 1 := IntWalk.i64_in _ (by omega)
    have w2 : IntKind.i64.wrap ((at_ : Int) + 2) = (at_ : Int) + 2 := IntWalk.i64_in _ (by omega)
    go_wp2_with fail
    refine (HCa.out _ (HS.out.lay _)).mono ?_
    rintro e w' ⟨vc, dc, rfl, rfl, hcn⟩
    obtain ⟨ca, cc, rfl⟩ := hcn.form
    rw [lay_bw] at hcn ⊢
    have HCN := Lib.hid hcn
    clear hcn
    go_wp2_with fail
    go_loopw [7, 27] (fun v7 v27 wr' => ∃ (j : Nat) (dw' d1 : Ext) (lx : List Int), j ≤ C.length ∧ v27 = .int .i64 (j : Int) ∧ wr' = lay w [.inr d1, .inr dc, .inl (.cells #[.slice (some ⟨g, 0, none⟩) m c, .bool wr] 57 (0, 0)), .inr dw', .inr d, .inr db, .inl (.cells #[.int .i64 (at_ : Int)] 3 (0, 0)), .inl (.cells #[.slice (some ⟨b, o, none⟩) m cap, .bool wr] 57 (0, 0))] ∧ dw'.n = dw.n ∧ lx.length = m ∧ (∀ x, lx.set at_ x = l.set at_ x) ∧
      Ow (lay w [.inr dw', .inr d, .inr db, .inl (.cells #[.int .i64 (at_ : Int)] 3 (0, 0)), .inl (.cells #[.slice (some ⟨b, o, none⟩) m cap, .bool wr] 57 (0, 0))]) (lay w [.inr d, .inr db, .inl (.cells #[.int .i64 (at_ : Int)] 3 (0, 0)), .inl (.cells #[.slice (some ⟨b, o, none⟩) m cap, .bool wr] 57 (0, 0))]).heap.size (.slice (some ⟨g, 0, none⟩) m c) lx ∧
      Ow (lay w [.inr dc, .inl (.cells #[.slice (some ⟨g, 0, none⟩) m c, .bool wr] 57 (0, 0)), .inr dw', .inr d, .inr db, .inl (.cells #[.int .i64 (at_ : Int)] 3 (0, 0)), .inl (.cells #[.slice (some ⟨b, o, none⟩) m cap, .bool wr] 57 (0, 0))]) (lay w [.inl (.cells #[.slice (some ⟨g, 0, none⟩) m c, .bool wr] 57 (0, 0)), .inr dw', .inr d, .inr db, .inl (.cells #[.int .i64 (at_ : Int)] 3 (0, 0)), .inl (.cells #[.slice (some ⟨b, o, none⟩) m cap, .bool wr] 57 (0, 0))]).heap.size (.slice ca C.length cc) C ∧
      Ow (lay w [.inr d1, .inr dc, .inl (.cells #[.slice (some ⟨g, 0, none⟩) m c, .bool wr] 57 (0, 0)), .inr dw', .inr d, .inr db, .inl (.cells #[.int .i64 (at_ : Int)] 3 (0, 0)), .inl (.cells #[.slice (some ⟨b, o, none⟩) m cap, .bool wr] 57 (0, 0))]) (lay w [.inr dc, .inl (.cells #[.slice (some ⟨g, 0, none⟩) m c, .bool wr] 57 (0, 0)), .inr dw', .inr d, .inr db, .inl (.cells #[.int .i64 (at_ : Int)] 3 (0, 0)), .inl (.cells #[.slice (some ⟨b, o, none⟩) m cap, .bool wr] 57 (0, 0))]).heap.size v7 ((C.take j).filter (fitB wr l bend at_))) (fun _ v27 _ => C.length - (intOf v27).toNat)
    case atStart => exact ⟨0, dw, noExt _, lx0, Nat.zero_le _, rfl, (bw_noExt _).symm, rfl, HSL.out, HXS.out, HX.out, HCN.out, Ow.nil _ _⟩
    case round =>
      obtain ⟨j, dw', d1, lx, hj, rfl, rfl, hdn, hlx, hlxs, hX, hC, hO⟩ := hrel
      by_cases hlt : j < C.length
      · obtain ⟨gc, cc', he, hgc1, -⟩ := hC.form1 (by omega)
        cases he
        obtain ⟨hgx1, hgx2⟩ := hX.1.lt g rfl
        have hp := HCp.out j hlt
        have hpb := perm_bd hp
        have k0 : (lay w [.inr d1, .inr dc, .inl (.cells #[.slice (some ⟨g, 0, none⟩) m c, .bool wr] 57 (0, 0)), .inr dw', .inr d, .inr db, .inl (.cells #[.int .i64 (at_ : Int)] 3 (0, 0)), .inl (.cells #[.slice (some ⟨b, o, none⟩) m cap, .bool wr] 57 (0, 0))]).cell? ⟨gc, j, none⟩ = some (.int .i64 (nth C j)) := (ow_on (A := [.inr d1]) hC).cell (i := j) hlt
        have kx : (lay w [.inr d1, .inr dc, .inl (.cells #[.slice (some ⟨g, 0, none⟩) m c, .bool wr] 57 (0, 0)), .inr dw', .inr d, .inr db, .inl (.cells #[.int .i64 (at_ : Int)] 3 (0, 0)), .inl (.cells #[.slice (some ⟨b, o, none⟩) m cap, .bool wr] 57 (0, 0))]).cell? ⟨g, at_, none⟩ = some (.int .i64 (nth lx at_)) := (ow_on (A := [.inr d1, .inr dc, .inl (.cells #[.slice (some ⟨g, 0, none⟩) m c, .bool wr] 57 (0, 0))]) hX).cell (i := at_) (by omega)
        have kf : (lay w [.inr d1, .inr dc, .inl (.cells #[.slice (some ⟨g, 0, none⟩) m c, .bool wr] 57 (0, 0)), .inr dw', .inr d, .inr db, .inl (.cells #[.int .i64 (at_ : Int)] 3 (0, 0)), .inl (.cells #[.slice (some ⟨b, o, none⟩) m cap, .bool wr] 57 (0, 0))]).frozen? ⟨g, at_, none⟩ = false := (ow_on (A := [.inr d1, .inr dc, .inl (.cells #[.slice (some ⟨g, 0, none⟩) m c, .bool wr] 57 (0, 0))]) hX).froz at_
        have hgo : g < (lay w [.inl (.cells #[.slice (some ⟨g, 0, none⟩) m c, .bool wr] 57 (0, 0)), .inr dw', .inr d, .inr db, .inl (.cells #[.int .i64 (at_ : Int)] 3 (0, 0)), .inl (.cells #[.slice (some ⟨b, o, none⟩) m cap, .bool wr] 57 (0, 0))]).heap.size := Nat.lt_of_lt_of_le hgx2 (lay_below (A := [.inl (.cells #[.slice (some ⟨g, 0, none⟩) m c, .bool wr] 57 (0, 0))]) (B := [.inr dw', .inr d, .inr db, .inl (.cells #[.int .i64 (at_ : Int)] 3 (0, 0)), .inl (.cells #[.slice (some ⟨b, o, none⟩) m cap, .bool wr] 57 (0, 0))])).size
        have hgo2 : g < (lay w [.inr dc, .inl (.cells #[.slice (some ⟨g, 0, none⟩) m c, .bool wr] 57 (0, 0)), .inr dw', .inr d, .inr db, .inl (.cells #[.int .i64 (at_ : Int)] 3 (0, 0)), .inl (.cells #[.slice (some ⟨b, o, none⟩) m cap, .bool wr] 57 (0, 0))]).heap.size := Nat.lt_of_lt_of_le hgx2 (lay_below (A := [.inr dc, .inl (.cells #[.slice (some ⟨g, 0, none⟩) m c, .bool wr] 57 (0, 0))]) (B := [.inr dw', .inr d, .inr db, .inl (.cells #[.int .i64 (at_ : Int)] 3 (0, 0)), .inl (.cells #[.slice (some ⟨b, o, none⟩) m cap, .bool wr] 57 (0, 0))])).size
        have hwf : (Lit.int .i64 (nth C j)).wf = true := by simp [Lit.wf, IntKind.min, IntKind.max, IntKind.bits, IntKind.signed]; omega
        obtain ⟨dw2, hst⟩ := low_store (d := dw') (B := [.inr d, .inr db, .inl (.cells #[.int .i64 (at_ : Int)] 3 (0, 0)), .inl (.cells #[.slice (some ⟨b, o, none⟩) m cap, .bool wr] 57 (0, 0))]) (i := at_) (v := .int .i64 (nth C j)) hgx1 hgx2
        have s0 : (lay w [.inr dw', .inr d, .inr db, .inl (.cells #[.int .i64 (at_ : Int)] 3 (0, 0)), .inl (.cells #[.slice (some ⟨b, o, none⟩) m cap, .bool wr] 57 (0, 0))]).setCell ⟨g, at_, none⟩ (.int .i64 (nth C j)) = lay w [.inr dw2, .inr d, .inr db, .inl (.cells #[.int .i64 (at_ : Int)] 3 (0, 0)), .inl (.cells #[.slice (some ⟨b, o, none⟩) m cap, .bool wr] 57 (0, 0))] := hst []
        have s1 : (lay w [.inl (.cells #[.slice (some ⟨g, 0, none⟩) m c, .bool wr] 57 (0, 0)), .inr dw', .inr d, .inr db, .inl (.cells #[.int .i64 (at_ : Int)] 3 (0, 0)), .inl (.cells #[.slice (some ⟨b, o, none⟩) m cap, .bool wr] 57 (0, 0))]).setCell ⟨g, at_, none⟩ (.int .i64 (nth C j)) = lay w [.inl (.cells #[.slice (some ⟨g, 0, none⟩) m c, .bool wr] 57 (0, 0)), .inr dw2, .inr d, .inr db, .inl (.cells #[.int .i64 (at_ : Int)] 3 (0, 0)), .inl (.cells #[.slice (some ⟨b, o, none⟩) m cap, .bool wr] 57 (0, 0))] := hst [_]
        have s2 : (lay w [.inr dc, .inl (.cells #[.slice (some ⟨g, 0, none⟩) m c, .bool wr] 57 (0, 0)), .inr dw', .inr d, .inr db, .inl (.cells #[.int .i64 (at_ : Int)] 3 (0, 0)), .inl (.cells #[.slice (some ⟨b, o, none⟩) m cap, .bool wr] 57 (0, 0))]).setCell ⟨g, at_, none⟩ (.int .i64 (nth C j)) = lay w [.inr dc, .inl (.cells #[.slice (some ⟨g, 0, none⟩) m c, .bool wr] 57 (0, 0)), .inr dw2, .inr d, .inr db, .inl (.cells #[.int .i64 (at_ : Int)] 3 (0, 0)), .inl (.cells #[.slice (some ⟨b, o, none⟩) m cap, .bool wr] 57 (0, 0))] := hst [_, _]
        have s3 : (lay w [.inr d1, .inr dc, .inl (.cells #[.slice (some ⟨g, 0, none⟩) m c, .bool wr] 57 (0, 0)), .inr dw', .inr d, .inr db, .inl (.cells #[.int .i64 (at_ : Int)] 3 (0, 0)), .inl (.cells #[.slice (some ⟨b, o, none⟩) m cap, .bool wr] 57 (0, 0))]).setCell ⟨g, at_, none⟩ (.int .i64 (nth C j)) = lay w [.inr d1, .inr dc, .inl (.cells #[.slice (some ⟨g, 0, none⟩) m c, .bool wr] 57 (0, 0)), .inr dw2, .inr d, .inr db, .inl (.cells #[.int .i64 (at_ : Int)] 3 (0, 0)), .inl (.cells #[.slice (some ⟨b, o, none⟩) m cap, .bool wr] 57 (0, 0))] := hst [_, _, _]
        have hdn2 : dw2.n = dw.n := by
          have e1 := congrArg (fun W => W.heap.size) s0
          simp only [World.size_setCell] at e1
          rw [lay_size_inr w dw' [.inr d, .inr db, .inl (.cells #[.int .i64 (at_ : Int)] 3 (0, 0)), .inl (.cells #[.slice (some ⟨b, o, none⟩) m cap, .bool wr] 57 (0, 0))], lay_size_inr w dw2 [.inr d, .inr db, .inl (.cells #[.int .i64 (at_ : Int)] 3 (0, 0)), .inl (.cells #[.slice (some ⟨b, o, none⟩) m cap, .bool wr] 57 (0, 0))]] at e1
          omega
        have z1 : (lay w [.inl (.cells #[.slice (some ⟨g, 0, none⟩) m c, .bool wr] 57 (0, 0)), .inr dw', .inr d, .inr db, .inl (.cells #[.int .i64 (at_ : Int)] 3 (0, 0)), .inl (.cells #[.slice (some ⟨b, o, none⟩) m cap, .bool wr] 57 (0, 0))]).heap.size = (lay w [.inl (.cells #[.slice (some ⟨g, 0, none⟩) m c, .bool wr] 57 (0, 0)), .inr dw2, .inr d, .inr db, .inl (.cells #[.int .i64 (at_ : Int)] 3 (0, 0)), .inl (.cells #[.slice (some ⟨b, o, none⟩) m cap, .bool wr] 57 (0, 0))]).heap.size := by rw [← s1, World.size_setCell]
        have z2 : (lay w [.inr dc, .inl (.cells #[.slice (some ⟨g, 0, none⟩) m c, .bool wr] 57 (0, 0)), .inr dw', .inr d, .inr db, .inl (.cells #[.int .i64 (at_ : Int)] 3 (0, 0)), .inl (.cells #[.slice (some ⟨b, o, none⟩) m cap, .bool wr] 57 (0, 0))]).heap.size = (lay w [.inr dc, .inl (.cells #[.slice (some ⟨g, 0, none⟩) m c, .bool wr] 57 (0, 0)), .inr dw2, .inr d, .inr db, .inl (.cells #[.int .i64 (at_ : Int)] 3 (0, 0)), .inl (.cells #[.slice (some ⟨b, o, none⟩) m cap, .bool wr] 57 (0, 0))]).heap.size := by rw [← s2, World.size_setCell]
        have hX2 := ow_store hX at_ (nth C j) hwf
        rw [s0, hlxs] at hX2
        have hC2 := hC.setLow (i := at_) (u := .int .i64 (nth C j)) hgo
        rw [s2] at hC2
        replace hC2 := hC2.base z1
        have hO2 := hO.setLow (i := at_) (u := .int .i64 (nth C j)) hgo2
        rw [s3] at hO2
        replace hO2 := hO2.base z2
        have hfi := nth_take_filter C (fitB wr l bend at_) j hlt
        rw [HFit.out] at hfi
        have hgi := giv_set HG.out at_ (nth C j) hp
        have hsm : (l.set at_ (nth C j)).length = m := by rw [List.length_set]; exact HM.out
        have HB := Lib.hid (aud_bad _ (l.set at_ (nth C j)) wr bend ((at_ : Int) - 1) ((at_ : Int) + 2) (loA at_) (hiA at_ m) (lay w [.inr d1, .inr dc, .inl (.cells #[.slice (some ⟨g, 0, none⟩) m c, .bool wr] 57 (0, 0)), .inr dw2, .inr d, .inr db, .inl (.cells #[.int .i64 (at_ : Int)] 3 (0, 0)), .inl (.cells #[.slice (some ⟨b, o, none⟩) m cap, .bool wr] 57 (0, 0))]) (sl_on (A := [.inr d1, .inr dc, .inl (.cells #[.slice (some ⟨g, 0, none⟩) m c, .bool wr] 57 (0, 0))]) hX2.sl) hgi b0 b1 (loA_mx _) (by rw [hsm]; exact hiA_mn _ _ (by omega)))
        have hfl := filter_len_le C (fitB wr l bend at_) j
        have x1 : (j : Int) < (C.length : Int) := by omega
        clear hX hC hO s0 s1 s2 z1 z2 hst hgo hgo2 hgi hp hpb hsm hlxs hlx hgx1 hgx2 hgc1
        have HX2 := Lib.hid hX2
        have HC2 := Lib.hid hC2
        have HO2 := Lib.hid hO2
        clear hX2 hC2 hO2
        generalize nth C j = n at *
        generalize badL wr (l.set at_ n) bend (loA at_) (hiA at_ m) = BL at *
        go_wp2_with fail
        refine HB.out.mono ?_
        rintro e w' ⟨vb2, d2, rfl, rfl, hvb2⟩
        obtain ⟨ba, bc, rfl⟩ := hvb2.form
        rw [lay_bw]
        clear hvb2 HB
        by_cases hBL : BL = []
        · subst hBL
          have HST : Hid ((C.take (j + 1)).filter (fitB wr l bend at_) = (C.take j).filter (fitB wr l bend at_) ++ [n]) := Lib.hid (by rw [hfi]; simp)
          clear hfi
          go_wp2_with (at_builtin; refine push_int rfl _ _ rfl (lay w [.inr dc, .inl (.cells #[.slice (some ⟨g, 0, none⟩) m c, .bool wr] 57 (0, 0)), .inr dw2, .inr d, .inr db, .inl (.cells #[.int .i64 (at_ : Int)] 3 (0, 0)), .inl (.cells #[.slice (some ⟨b, o, none⟩) m cap, .bool wr] 57 (0, 0))]) _ (n) 3 _ _ _ ?_ (ow_on (A := [_, _]) HO2.out) ?_ rfl rfl (by omega) hwf ?_; exact lay_below (A := [_, _, _]); rw [← hdn2]; exact lay_get w _ 0 _ rfl; intro v' d' hv')
          go_roundw
          case rel => exact ⟨j + 1, dw2, d', l.set at_ n, hlt, by go_num, rfl, hdn2, by rw [List.length_set]; exact HM.out, fun x => List.set_set .., HX2.out, HC2.out, by rw [HST.out]; exact hv'⟩
          case measure => simp [intOf]; omega
        · have HST : Hid ((C.take (j + 1)).filter (fitB wr l bend at_) = (C.take j).filter (fitB wr l bend at_)) := Lib.hid (by rw [hfi, if_neg (by simpa using hBL), List.append_nil])
          have hz : ((BL.length : Int) == 0) = false := beq_eq_false_iff_ne.2 (fun h => hBL (List.eq_nil_of_length_eq_zero (by omega)))
          clear hfi hBL
          generalize BL.length = q at *
          go_wp2_with fail
          go_roundw
          case rel => exact ⟨j + 1, dw2, _, l.set at_ n, hlt, by go_num, Classical.choose_spec (lay_fold w [_, _] [.inr dc, .inl (.cells #[.slice (some ⟨g, 0, none⟩) m c, .bool wr] 57 (0, 0)), .inr dw2, .inr d, .inr db, .inl (.cells #[.int .i64 (at_ : Int)] 3 (0, 0)), .inl (.cells #[.slice (some ⟨b, o, none⟩) m cap, .bool wr] 57 (0, 0))]), hdn2, by rw [List.length_set]; exact HM.out, fun x => List.set_set .., HX2.out, HC2.out, by rw [← Classical.choose_spec (lay_fold w [_, _] [.inr dc, .inl (.cells #[.slice (some ⟨g, 0, none⟩) m c, .bool wr] 57 (0, 0)), .inr dw2, .inr d, .inr db, .inl (.cells #[.int .i64 (at_ : Int)] 3 (0, 0)), .inl (.cells #[.slice (some ⟨b, o, none⟩) m cap, .bool wr] 57 (0, 0))]), HST.out]; exact ow_on (A := [_]) HO2.out⟩
          case measure => simp [intOf]; omega
      · obtain rfl : j = C.length := by omega
        rw [List.take_length] at hO
        have HO := Lib.hid hO
        have x1 : (C.length : Int) ≤ (C.length : Int) := Int.le_refl _
        clear hO hX hC hlxs hlx
        go_wp2
        go_ret
        obtain ⟨z, hz⟩ := lay_ex w [.inr d1, .inr dc, .inl (.cells #[.slice (some ⟨g, 0, none⟩) m c, .bool wr] 57 (0, 0)), .inr dw', .inr d, .inr db, .inl (.cells #[.int .i64 (at_ : Int)] 3 (0, 0)), .inl (.cells #[.slice (some ⟨b, o, none⟩) m cap, .bool wr] 57 (0, 0))]
        have h := HO.out
        rw [hz] at h
        exact ⟨_, z, rfl, hz, h.le (lay_extends w _).size⟩
  · rw [if_pos rfl]
    rw [hany] at HCF
    clear hany
    refine lay_start ?_
    go_enter Try.func33, Try.ntmps33
    go_wp2_with fail
    refine (HBad.out _ (HS.out.lay _)).mono ?_
    rintro e w' ⟨vb, db, rfl, rfl, hvb⟩
    have HCF' := Lib.hid (HCF.out vb db hvb.sl)
    rw [lay_bw]
    clear hvb
    go_wp2_with fail
    refine HCF'.out.mono ?_
    rintro e w' ⟨rfl, d, rfl⟩
    go_wp2
    go_ret
    obtain ⟨z, hz⟩ := lay_ex w [.inr d, .inr db, .inl (.cells #[.int .i64 (at_ : Int)] 3 (0, 0)), .inl (.cells #[.slice (some ⟨b, o, none⟩) m cap, .bool wr] 57 (0, 0))]
    exact ⟨_, z, rfl, hz, Ow.nil _ _⟩
end Go.Proofs.Ytgpgfmemnhgmbaa

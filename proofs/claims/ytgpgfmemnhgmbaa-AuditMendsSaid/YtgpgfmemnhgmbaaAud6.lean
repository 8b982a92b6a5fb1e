/- audit: candidates. -/
import Derived.Test.YtgpgfmemnhgmbaaProg
import Derived.Test.YtgpgfmemnhgmbaaLay
import Derived.Test.YtgpgfmemnhgmbaaRegion
import Derived.Test.YtgpgfmemnhgmbaaMix
import Derived.WalkKit
import Derived.WalkSpells
import Derived.WalkLawsBesides
import Derived.Lib.Hide
import Derived.BigQuiet
import Derived.Test.YtgpgfmemnhgmbaaPlain
import Derived.Test.YtgpgfmemnhgmbaaAngle
import Derived.Test.YtgpgfmemnhgmbaaAud5
import Derived.Test.YtgpgfmemnhgmbaaAPlain2
namespace Go.Proofs.Ytgpgfmemnhgmbaa
open Go.RowKit

def cntM (bend : Int) : Nat := (2 * (bend + 2) + 1).toNat
def raw1 (wr : Bool) (l : List Int) (bend : Int) (k : Nat) : List Int := addL wr (fun x => nth l (k + 1) + x) (stp wr l k - (bend + 2)) (cntM bend)
def raw2 (wr : Bool) (l : List Int) (bend : Int) (at_ : Nat) : List Int := addL wr (fun x => nth l (at_ + 1) - x) (stp wr l (at_ + 1) - (bend + 2)) (cntM bend)
def half1 (s bend : Int) : Int := (s - (bend + 2)).tdiv 2 - 1
def half2 (s bend : Int) : Int := (s + (bend + 2)).tdiv 2 + 1
def cntH (s bend : Int) : Nat := (half2 s bend - half1 s bend + 1).toNat
def raw3 (wr : Bool) (l : List Int) (bend : Int) : List Int :=
  addL wr (fun x => nth l 0 + x) (half1 (frm wr (nth l 2 - nth l 0)) bend) (cntH (frm wr (nth l 2 - nth l 0)) bend) ++
    if wr then addL wr (fun x => nth l 0 + x) (half1 (frm wr (nth l 2 - nth l 0) + 216000) bend) (cntH (frm wr (nth l 2 - nth l 0) + 216000) bend) else []
theorem bw_of_lay (w : World) (L : List (Obj ⊕ Ext)) : ∃ d, lay w L = bw w d := lay_ex w L
/-- The end of candidates: the row is sorted and compacted. -/
theorem cand_end {w : World} {L : List (Obj ⊕ Ext)} {d : Ext} {v : Value} {l : List Int} (h : Ow (bw (lay w L) d) (lay w L).heap.size v l) : ∃ d', bw (lay w L) d = bw w d' ∧ Ow (bw w d') w.heap.size v l := by
  obtain ⟨d', hd⟩ := lay_exb w L d
  exact ⟨d', hd, by rw [← hd]; exact h.le (lay_extends w L).size⟩
def SorPost (W0 : World) (v : Value) (l : List Int) (e : Ending) (w' : World) : Prop := ∃ d, e = .returned (.tuple #[]) ∧ w' = bw W0 d ∧ Ow (bw W0 d) W0.heap.size v (srt l)
def ComPost (W0 : World) (l : List Int) (e : Ending) (w' : World) : Prop := ∃ v d, e = .returned v ∧ w' = bw W0 d ∧ Ow (bw W0 d) W0.heap.size v l
theorem sl_Sort' (W0 : World) (v : Value) (l : List Int) (d : Ext) (h : Ow (bw W0 d) W0.heap.size v l) (hb : l.length ≤ 1000000000) :
    Calls Try.prog 57 #[v] (bw W0 d) (SorPost W0 v l) :=
  (sl_Sort W0 v l _ (bw_below W0 d) h hb).mono fun _ _ ⟨h1, d, h2, h3⟩ => ⟨d, h1, h2, h3⟩
theorem sl_Compact' (W0 : World) (v : Value) (l : List Int) (d : Ext) (h : Ow (bw W0 d) W0.heap.size v (srt l)) (hb : l.length ≤ 1000000000) :
    Calls Try.prog 58 #[v] (bw W0 d) (ComPost W0 (once l)) :=
  sl_Compact W0 v (srt l) _ (bw_below W0 d) h (by rw [srt_len]; exact hb) (fun x hx => mem_compact.1 hx) (compact_len _)
set_option maxHeartbeats 4000000 in
set_option maxRecDepth 100000 in
theorem aud_candidates1 (v : Value) (l : List Int) (wr : Bool) (bend : Int) (k : Nat) (w : World) (hs : Sl w v l) (hg : Giv wr l) (b0 : 0 ≤ bend) (b1 : bend ≤ 1000) (ha : k + 2 < l.length) :
    Calls Try.prog 46 #[.agg #[v, .bool wr], .int .i64 bend, .int .i64 ((k : Int) + 2)] w (Rw w (once (raw1 wr l bend k))) := by
  have hn := hg.n1000
  have sb := stp_bd hg (i := k) (by omega)
  have pb := perm_bd (hg.perm (k + 1) (by omega))
  have H1 := Lib.hid (fun W (h : Sl W v l) => aud_step v l wr k W h hg (by omega))
  have HS := Lib.hid hs
  obtain ⟨b, o, cap, rfl, hc, -, hb, hr⟩ := hs.open (by omega)
  have hr := hr (k + 1) (by omega)
  obtain ⟨m, hm⟩ : ∃ m, l.length = m := ⟨_, rfl⟩
  rw [hm] at H1 HS ha hn hc ⊢
  have eI : ∀ args w, (callFunc 53 args).run Try.prog w = .ok (.enter 53 args) w := enters_of Try.func53 (by kernel_rfl) rfl
  have k3 : (lay w [.inl (.cells #[.int .i64 ((k : Int) + 2)] 3 (0, 0)), .inl (.cells #[.slice (some ⟨b, o, none⟩) m cap, .bool wr] 57 (0, 0))]).cell? ⟨posn w [], 0, none⟩ = some (.slice (some ⟨b, o, none⟩) m cap) := by simp [go_sem]
  have k3' : (lay w [.inl (.cells #[.int .i64 ((k : Int) + 2)] 3 (0, 0)), .inl (.cells #[.slice (some ⟨b, o, none⟩) m cap, .bool wr] 57 (0, 0))]).cell? ⟨posn w [], 1, none⟩ = some (.bool wr) := by simp [go_sem]
  have k5 : (lay w [.inl (.cells #[.int .i64 ((k : Int) + 2)] 3 (0, 0)), .inl (.cells #[.slice (some ⟨b, o, none⟩) m cap, .bool wr] 57 (0, 0))]).cell? ⟨posn w [1], 0, none⟩ = some (.int .i64 (((k + 1 : Nat) : Int) + 1)) := by rw [show (((k + 1 : Nat) : Int) + 1) = (k : Int) + 2 by omega]; simp [go_sem]
  have l3 : posn w [] < (lay w [.inl (.cells #[.int .i64 ((k : Int) + 2)] 3 (0, 0)), .inl (.cells #[.slice (some ⟨b, o, none⟩) m cap, .bool wr] 57 (0, 0))]).heap.size := by simp only [lay_size, shp, posn, List.sum_cons, List.sum_nil]; omega
  have l5 : posn w [1] < (lay w [.inl (.cells #[.int .i64 ((k : Int) + 2)] 3 (0, 0)), .inl (.cells #[.slice (some ⟨b, o, none⟩) m cap, .bool wr] 57 (0, 0))]).heap.size := by simp only [lay_size, shp, posn, List.sum_cons, List.sum_nil]; omega
  have hp : posn (lay w [.inl (.cells #[.int .i64 ((k : Int) + 2)] 3 (0, 0)), .inl (.cells #[.slice (some ⟨b, o, none⟩) m cap, .bool wr] 57 (0, 0))]) [] = posn w [1, 1] := by simp only [posn, lay_size, shp, List.sum_cons, List.sum_nil]; omega
  have HA := Lib.hid (fun d => aud_add 53 [.pointer (some ⟨posn w [], 0, none⟩), .pointer (some ⟨posn w [1], 0, none⟩)] (fun x => nth l (k + 1) + x) (some ⟨b, o, none⟩) m cap (posn w []) wr (stp wr l k - (bend + 2)) (stp wr l k + (bend + 2)) (cntM bend) (.slice none 0 0) []
    (lay w [.inl (.cells #[.int .i64 ((k : Int) + 2)] 3 (0, 0)), .inl (.cells #[.slice (some ⟨b, o, none⟩) m cap, .bool wr] 57 (0, 0))]) d eI l3 k3 k3'
    (fun x x0 x1 L => cand2 b o m cap (posn w []) (posn w [1]) (k + 1) l x _ ((lay_old _ L 0 _ l3).trans k3) ((lay_old _ L 0 _ l5).trans k5) (by omega) hn ((lay_old _ L _ _ (Nat.lt_of_lt_of_le hb (lay_extends w _).size)).trans ((lay_old w _ _ _ hb).trans hr)) pb ⟨by omega, by omega⟩)
    (fun x x0 x1 => ⟨by omega, by omega⟩) (by omega) (by omega) (by unfold cntM; omega) (by simp) (Ow.nil _ _))
  rw [hp] at HA
  have hraw : raw1 wr l bend k = [] ++ addL wr (fun x => nth l (k + 1) + x) (stp wr l k - (bend + 2)) (cntM bend) := rfl
  have hrl : (raw1 wr l bend k).length ≤ 1000000000 := by
    have := addL_len wr (fun x => nth l (k + 1) + x) (stp wr l k - (bend + 2)) (cntM bend)
    unfold raw1; unfold cntM at *; omega
  rw [← hraw] at HA
  have y1 : (2 : Int) ≤ (k : Int) + 2 := by omega
  have w0 : wrap64 (k : Int) = (k : Int) := IntWalk.wrap64_in _ (by omega)
  have w1 : IntKind.i64.wrap (bend + 2) = bend + 2 := IntWalk.i64_in _ (by omega)
  have w2 : IntKind.i64.wrap (stp wr l k - (bend + 2)) = stp wr l k - (bend + 2) := IntWalk.i64_in _ (by omega)
  have w3 : IntKind.i64.wrap (stp wr l k + (bend + 2)) = stp wr l k + (bend + 2) := IntWalk.i64_in _ (by omega)
  have hlay : ∀ x y, lay (lay w [.inl (.cells #[.int .i64 ((k : Int) + 2)] 3 (0, 0)), .inl (.cells #[.slice (some ⟨b, o, none⟩) m cap, .bool wr] 57 (0, 0))]) [x, y] = lay w [x, y, .inl (.cells #[.int .i64 ((k : Int) + 2)] 3 (0, 0)), .inl (.cells #[.slice (some ⟨b, o, none⟩) m cap, .bool wr] 57 (0, 0))] := fun x y => (lay_app w [x, y] _).symm
  clear hraw k3 k3' k5 l3 l5 hp eI hs hg hr hm
  generalize raw1 wr l bend k = R at *
  generalize stp wr l k = S at *
  refine lay_start ?_
  go_enter Try.func46, Try.ntmps46
  go_wp2_with (go_at_call 26; refine (H1.out _ (HS.out.lay _)).mono ?_; rintro e w' ⟨rfl, d, rfl⟩)
  refine (HA.out _).mono ?_
  rintro e w' ⟨v, d2, rfl, rfl, hv⟩
  rw [hlay] at hv ⊢
  replace hv := hv.base ((box_size _ _ v).trans (show _ = (lay w (.inl (.cells #[v] 22 (0, 0)) :: [.inl (.cells #[.int .i64 ((k : Int) + 2)] 3 (0, 0)), .inl (.cells #[.slice (some ⟨b, o, none⟩) m cap, .bool wr] 57 (0, 0))])).heap.size from rfl))
  have HSo := Lib.hid (sl_Sort' (lay w (.inl (.cells #[v] 22 (0, 0)) :: [.inl (.cells #[.int .i64 ((k : Int) + 2)] 3 (0, 0)), .inl (.cells #[.slice (some ⟨b, o, none⟩) m cap, .bool wr] 57 (0, 0))])) v _ d2 hv hrl)
  clear hv
  go_wp2_with fail
  refine HSo.out.mono ?_
  rintro e w' ⟨d3, rfl, rfl, h3⟩
  rw [lay_bw]
  have HCo := Lib.hid (sl_Compact' (lay w (.inl (.cells #[v] 22 (0, 0)) :: [.inl (.cells #[.int .i64 ((k : Int) + 2)] 3 (0, 0)), .inl (.cells #[.slice (some ⟨b, o, none⟩) m cap, .bool wr] 57 (0, 0))])) v _ d3 h3 hrl)
  clear h3
  go_wp2_with fail
  refine HCo.out.mono ?_
  rintro e w' ⟨v2, d4, rfl, rfl, h4⟩
  obtain ⟨va, vn, vc, hve⟩ := h4.form0
  subst hve
  rw [lay_bw]
  have H4 := Lib.hid h4
  clear h4
  go_wp2
  go_ret
  obtain ⟨z, hz, h5⟩ := cand_end H4.out
  exact ⟨_, z, rfl, hz, h5⟩
set_option maxHeartbeats 4000000 in
set_option maxRecDepth 100000 in
theorem aud_candidates2 (v : Value) (l : List Int) (wr : Bool) (bend : Int) (k : Nat) (w : World) (hs : Sl w v l) (hg : Giv wr l) (b0 : 0 ≤ bend) (b1 : bend ≤ 1000) (hk : k < 2) (ha : k + 2 < l.length) :
    Calls Try.prog 46 #[.agg #[v, .bool wr], .int .i64 bend, .int .i64 (k : Int)] w (Rw w (once (raw2 wr l bend k))) := by
  have hn := hg.n1000
  have sb := stp_bd hg (i := k + 1) (by omega)
  have pb := perm_bd (hg.perm (k + 1) (by omega))
  have H1 := Lib.hid (fun W (h : Sl W v l) => aud_step v l wr (k + 1) W h hg (by omega))
  rw [show ((k + 1 : Nat) : Int) = (k : Int) + 1 by omega] at H1
  have HS := Lib.hid hs
  obtain ⟨b, o, cap, rfl, hc, -, hb, hr⟩ := hs.open (by omega)
  have hr := hr (k + 1) (by omega)
  obtain ⟨m, hm⟩ : ∃ m, l.length = m := ⟨_, rfl⟩
  rw [hm] at H1 HS ha hn hc ⊢
  have eI : ∀ args w, (callFunc 54 args).run Try.prog w = .ok (.enter 54 args) w := enters_of Try.func54 (by kernel_rfl) rfl
  have k3 : (lay w [.inl (.cells #[.int .i64 (k : Int)] 3 (0, 0)), .inl (.cells #[.slice (some ⟨b, o, none⟩) m cap, .bool wr] 57 (0, 0))]).cell? ⟨posn w [], 0, none⟩ = some (.slice (some ⟨b, o, none⟩) m cap) := by simp [go_sem]
  have k3' : (lay w [.inl (.cells #[.int .i64 (k : Int)] 3 (0, 0)), .inl (.cells #[.slice (some ⟨b, o, none⟩) m cap, .bool wr] 57 (0, 0))]).cell? ⟨posn w [], 1, none⟩ = some (.bool wr) := by simp [go_sem]
  have k5 : (lay w [.inl (.cells #[.int .i64 (k : Int)] 3 (0, 0)), .inl (.cells #[.slice (some ⟨b, o, none⟩) m cap, .bool wr] 57 (0, 0))]).cell? ⟨posn w [1], 0, none⟩ = some (.int .i64 (k : Int)) := by simp [go_sem]
  have l3 : posn w [] < (lay w [.inl (.cells #[.int .i64 (k : Int)] 3 (0, 0)), .inl (.cells #[.slice (some ⟨b, o, none⟩) m cap, .bool wr] 57 (0, 0))]).heap.size := by simp only [lay_size, shp, posn, List.sum_cons, List.sum_nil]; omega
  have l5 : posn w [1] < (lay w [.inl (.cells #[.int .i64 (k : Int)] 3 (0, 0)), .inl (.cells #[.slice (some ⟨b, o, none⟩) m cap, .bool wr] 57 (0, 0))]).heap.size := by simp only [lay_size, shp, posn, List.sum_cons, List.sum_nil]; omega
  have hp : posn (lay w [.inl (.cells #[.int .i64 (k : Int)] 3 (0, 0)), .inl (.cells #[.slice (some ⟨b, o, none⟩) m cap, .bool wr] 57 (0, 0))]) [] = posn w [1, 1] := by simp only [posn, lay_size, shp, List.sum_cons, List.sum_nil]; omega
  have HA := Lib.hid (fun d => aud_add 54 [.pointer (some ⟨posn w [], 0, none⟩), .pointer (some ⟨posn w [1], 0, none⟩)] (fun x => nth l (k + 1) - x) (some ⟨b, o, none⟩) m cap (posn w []) wr (stp wr l (k + 1) - (bend + 2)) (stp wr l (k + 1) + (bend + 2)) (cntM bend) (.slice none 0 0) []
    (lay w [.inl (.cells #[.int .i64 (k : Int)] 3 (0, 0)), .inl (.cells #[.slice (some ⟨b, o, none⟩) m cap, .bool wr] 57 (0, 0))]) d eI l3 k3 k3'
    (fun x x0 x1 L => cand3 b o m cap (posn w []) (posn w [1]) k l x _ ((lay_old _ L 0 _ l3).trans k3) ((lay_old _ L 0 _ l5).trans k5) (by omega) hn ((lay_old _ L _ _ (Nat.lt_of_lt_of_le hb (lay_extends w _).size)).trans ((lay_old w _ _ _ hb).trans hr)) pb ⟨by omega, by omega⟩)
    (fun x x0 x1 => ⟨by omega, by omega⟩) (by omega) (by omega) (by unfold cntM; omega) (by simp) (Ow.nil _ _))
  rw [hp] at HA
  have hraw : raw2 wr l bend k = [] ++ addL wr (fun x => nth l (k + 1) - x) (stp wr l (k + 1) - (bend + 2)) (cntM bend) := rfl
  have hrl : (raw2 wr l bend k).length ≤ 1000000000 := by
    have := addL_len wr (fun x => nth l (k + 1) - x) (stp wr l (k + 1) - (bend + 2)) (cntM bend)
    unfold raw2; unfold cntM at *; omega
  rw [← hraw] at HA
  have y1 : (k : Int) < 2 := by omega
  have y2 : (k : Int) + 2 < (m : Int) := by omega
  have w0 : IntKind.i64.wrap ((k : Int) + 1) = (k : Int) + 1 := IntWalk.i64_in _ (by omega)
  have w9 : IntKind.i64.wrap ((k : Int) + 2) = (k : Int) + 2 := IntWalk.i64_in _ (by omega)
  have w1 : IntKind.i64.wrap (bend + 2) = bend + 2 := IntWalk.i64_in _ (by omega)
  have w2 : IntKind.i64.wrap (stp wr l (k + 1) - (bend + 2)) = stp wr l (k + 1) - (bend + 2) := IntWalk.i64_in _ (by omega)
  have w3 : IntKind.i64.wrap (stp wr l (k + 1) + (bend + 2)) = stp wr l (k + 1) + (bend + 2) := IntWalk.i64_in _ (by omega)
  have hlay : ∀ x y, lay (lay w [.inl (.cells #[.int .i64 (k : Int)] 3 (0, 0)), .inl (.cells #[.slice (some ⟨b, o, none⟩) m cap, .bool wr] 57 (0, 0))]) [x, y] = lay w [x, y, .inl (.cells #[.int .i64 (k : Int)] 3 (0, 0)), .inl (.cells #[.slice (some ⟨b, o, none⟩) m cap, .bool wr] 57 (0, 0))] := fun x y => (lay_app w [x, y] _).symm
  clear hraw k3 k3' k5 l3 l5 hp eI hs hg hr hm
  generalize raw2 wr l bend k = R at *
  generalize stp wr l (k + 1) = S at *
  refine lay_start ?_
  go_enter Try.func46, Try.ntmps46
  go_wp2_with (go_at_call 26; refine (H1.out _ (HS.out.lay _)).mono ?_; rintro e w' ⟨rfl, d, rfl⟩)
  refine (HA.out _).mono ?_
  rintro e w' ⟨v, d2, rfl, rfl, hv⟩
  rw [hlay] at hv ⊢
  replace hv := hv.base ((box_size _ _ v).trans (show _ = (lay w (.inl (.cells #[v] 22 (0, 0)) :: [.inl (.cells #[.int .i64 (k : Int)] 3 (0, 0)), .inl (.cells #[.slice (some ⟨b, o, none⟩) m cap, .bool wr] 57 (0, 0))])).heap.size from rfl))
  have HSo := Lib.hid (sl_Sort' (lay w (.inl (.cells #[v] 22 (0, 0)) :: [.inl (.cells #[.int .i64 (k : Int)] 3 (0, 0)), .inl (.cells #[.slice (some ⟨b, o, none⟩) m cap, .bool wr] 57 (0, 0))])) v _ d2 hv hrl)
  clear hv
  go_wp2_with fail
  refine HSo.out.mono ?_
  rintro e w' ⟨d3, rfl, rfl, h3⟩
  rw [lay_bw]
  have HCo := Lib.hid (sl_Compact' (lay w (.inl (.cells #[v] 22 (0, 0)) :: [.inl (.cells #[.int .i64 (k : Int)] 3 (0, 0)), .inl (.cells #[.slice (some ⟨b, o, none⟩) m cap, .bool wr] 57 (0, 0))])) v _ d3 h3 hrl)
  clear h3
  go_wp2_with fail
  refine HCo.out.mono ?_
  rintro e w' ⟨v2, d4, rfl, rfl, h4⟩
  obtain ⟨va, vn, vc, hve⟩ := h4.form0
  subst hve
  rw [lay_bw]
  have H4 := Lib.hid h4
  clear h4
  go_wp2
  go_ret
  obtain ⟨z, hz, h5⟩ := cand_end H4.out
  exact ⟨_, z, rfl, hz, h5⟩
end Go.Proofs.Ytgpgfmemnhgmbaa

/- Contracts and plain laws, several texts in one: Ris; Av5; LnP; Val; Va2; Va3 -/
import Derived.Test.YtmomoeagnkjbiaaGreatProg
import Derived.WalkKit
import Derived.WalkSpells
import Derived.WalkLawsBesides
import Derived.Lib.Hide
import Derived.BigQuiet
import Derived.RangeFuncNested
import Derived.RangeFuncBox
import Derived.RangeFuncLeaves
import Derived.Shelf.Abstract
import Derived.OwnWalkIn
import Derived.TacticsInMore
import Derived.LoopNIn
import Derived.LoopIn
import Derived.RangeFuncFrom
import Derived.RangeFuncWrites
import Derived.Maps.AppendAt
import Derived.Test.YtmomoeagnkjbiaaGreatBAA
import Derived.Test.YtmomoeagnkjbiaaGreatBAB
import Derived.Test.YtmomoeagnkjbiaaGreatBAD
import Derived.Test.YtmomoeagnkjbiaaGreatBAF
import Derived.Test.YtmomoeagnkjbiaaGreatBAG
import Derived.Test.YtmomoeagnkjbiaaGreatBAI
import Derived.Test.YtmomoeagnkjbiaaGreatBAR
/- average.Line: its rows of quotients; the library's sort of them. -/
namespace Go.Proofs.YtmomoeagnkjbiaaGreat
open Go.RowKit Go.Sort Go.Shelf

/-- A quotient within bounds. -/
def RisB : Type := { x : RisV // (-21600000 ≤ x.h ∧ x.h ≤ 21600000) ∧ 1 ≤ x.t ∧ x.t ≤ 172800000 }
instance : Inhabited RisB := ⟨⟨⟨0, 1⟩, by decide⟩⟩
def riR : RecT RisB := { E := 83, S := 81, k := 2, bytes := 16, enc := fun x => [.int .i64 x.1.h, .int .i64 x.1.t], wf := fun _ => True }
theorem info_ri : (Tryz.prog.info? 83).map (fun i => (i.zero.map (fun z => z.cells.size), i.size, i.bytes)) = some (some 2, 2, 16) := by kernel_rfl
theorem riOk : RecOk riR where
  len _ := rfl
  one x u hu := by
    rcases List.mem_cons.1 hu with rfl | hu
    · rfl
    · rw [List.mem_singleton.1 hu]; rfl
  pos := by decide
  und := Tryz.underlying81
  info := by
    have h := info_ri
    cases hi : Tryz.prog.info? 83 with
    | none => rw [hi] at h; cases h
    | some i =>
      rw [hi] at h
      simp only [Option.map_some, Option.some.injEq, Prod.mk.injEq] at h
      obtain ⟨h1, h2, h3⟩ := h
      cases hz : i.zero with
      | none => rw [hz] at h1; cases h1
      | some z =>
        rw [hz] at h1
        simp only [Option.map_some, Option.some.injEq] at h1
        exact ⟨i, z, hi, hz, h2, h3, h1⟩
  small := by decide
def cmpR (x y : RisB) : Int := x.1.h * y.1.t - y.1.h * x.1.t
theorem lt_cmpR (x y : RisB) : ltOf cmpR x y = !risLe y.1 x.1 := by
  unfold ltOf cmpR risLe
  rw [Bool.eq_iff_iff]; simp; omega
theorem swo_cmpR : SWO (ltOf cmpR) where
  irrefl x := by rw [lt_cmpR]; unfold risLe; simp
  trans x y z h1 h2 := by
    rw [lt_cmpR] at *
    simp only [Bool.not_eq_true'] at *
    have hx := x.2; have hy := y.2; have hz := z.2
    cases h : risLe z.1 x.1
    · rfl
    · have h3 := (risLe_tot z.1 y.1).resolve_left (by rw [h2]; decide)
      have := risLe_tr (by omega) (by omega) (by omega) h3 h
      rw [h1] at this; cases this
  ntrans x y z h1 h2 := by
    rw [lt_cmpR] at *
    simp only [Bool.not_eq_false'] at *
    have hx := x.2; have hy := y.2; have hz := z.2
    exact risLe_tr (by omega) (by omega) (by omega) h2 h1
theorem cmp_bd (x y : RisB) : -3732480000000000 ≤ x.1.h * y.1.t ∧ x.1.h * y.1.t ≤ 3732480000000000 := by
  have hx := x.2; have hy := y.2
  have h1 : (x.1.h * y.1.t).natAbs ≤ 21600000 * 172800000 := by rw [Int.natAbs_mul]; exact Nat.mul_le_mul (by omega) (by omega)
  omega
set_option maxHeartbeats 400000 in
theorem av_Line1 (x y : RisB) (w : World) :
    Calls Tryz.prog 40 #[(.agg #[.int .i64 (x.1.h), .int .i64 (x.1.t)]), (.agg #[.int .i64 (y.1.h), .int .i64 (y.1.t)])] w fun e w' => e = .returned (.int .i64 (cmpR x y)) ∧ w' = lay w [.inl (.cells #[.int .i64 y.1.h, .int .i64 y.1.t] 83 (0, 0)), .inl (.cells #[.int .i64 x.1.h, .int .i64 x.1.t] 83 (0, 0))] := by
  have h1 := cmp_bd x y
  have h2 := cmp_bd y x
  have k1 : IntKind.i64.wrap (x.1.h * y.1.t) = x.1.h * y.1.t := IntWalk.i64_in _ (by omega)
  have k2 : IntKind.i64.wrap (y.1.h * x.1.t) = y.1.h * x.1.t := IntWalk.i64_in _ (by omega)
  have k3 : IntKind.i64.wrap (x.1.h * y.1.t - y.1.h * x.1.t) = cmpR x y := IntWalk.i64_in _ (by omega)
  have k4 : IntKind.i64.wrap (cmpR x y) = cmpR x y := by rw [← k3]; exact IntWalk.i64_in _ (by rw [k3]; unfold cmpR; omega)
  clear h1 h2
  generalize x.1.h = xh at *
  generalize x.1.t = xt at *
  generalize y.1.h = yh at *
  generalize y.1.t = yt at *
  refine lay_start ?_
  go_enter Tryz.func40, Tryz.ntmps40
  go_wp2_with fail
  go_ret
  exact ⟨rfl, rfl⟩
theorem lay2_growR (W : World) (o1 o2 : Obj) : Go.Proofs.YtmomoeagnkjbiaaGreat.lay W [.inl o1, .inl o2] = grow (W.drewN 0) (#[o2] ++ #[o1]) := by
  show (W.alloc o2).alloc o1 = _
  rw [alloc_eq_grow, alloc_eq_grow, grow_grow]; rfl
theorem cmpLays_ri (blk off size : Nat) (w : World) : CmpLays Tryz.prog 40 #[] riR.enc 2 cmpR blk off size w :=
  fun _ _ _ _ x y => (av_Line1 x y _).mono fun _ _ ⟨he, hw⟩ => ⟨he, 0, _, hw.trans (lay2_growR _ _ _)⟩
theorem isAgg_ri : ∀ w, (isAgg 83).run Tryz.prog w = .ok true w := fun _ => by kernel_rfl
theorem sizeOf_ri : ∀ w, (Go.sizeOf 83).run Tryz.prog w = .ok 2 w := fun _ => by kernel_rfl
theorem av_sort (W0 : World) (v : Value) (l : List RisB) (w : World) (hw : Below W0.heap.size W0 w) (h : OwG riR w W0.heap.size v l) (hl : 0 < l.length) (hb : l.length ≤ 1000000000) :
    Calls Tryz.prog 39 #[v, .func (.func 40) #[] #[]] w fun e w' => e = .returned (.tuple #[]) ∧ ∃ d l', w' = bw W0 d ∧ l'.Perm l ∧ l'.Pairwise (fun a b => risLe a.1 b.1 = true) ∧ OwG riR (bw W0 d) W0.heap.size v l' := by
  obtain ⟨g, cap, rfl, h1, h2, h3⟩ := h.form1 hl
  have eg : ∀ args w, (callFunc 40 args).run Tryz.prog w = .ok (.enter 40 args) w := enters_of Tryz.func40 (by kernel_rfl) rfl
  have hcon := AnyQ.slices_SortFunc Tryz.sortRise 2 isAgg_ri sizeOf_ri riR.enc riOk.len riOk.one cmpR swo_cmpR 40 #[] g 0 cap l.toArray w eg (cmpLays_ri g 0 l.toArray.size w) (holdsK_row riOk h) h2 (by simp; omega)
  have hs : l.toArray.size = l.length := by simp
  rw [hs] at hcon
  refine Calls.mono hcon fun e w' ⟨he, d', n, os, hp, ho, hw'⟩ => ⟨he, ?_⟩
  have hsz : d'.size = l.length := by rw [← hs]; exact hp.1
  have hperm : d'.toList.Perm l := by
    have := hp.2.2
    rw [Array.extract_eq_self_of_le (by rw [hsz]; exact Nat.le_refl _), Array.extract_eq_self_of_le (by rw [hs]; exact Nat.le_refl _)] at this
    exact this
  obtain ⟨e', he', hown⟩ := owG_sorted riOk hw h hsz (n := n) (os := os) (fun x hx => h.2 x (hperm.mem_iff.1 hx))
  refine ⟨e', d'.toList, hw'.trans he', hperm, ?_, hown⟩
  rw [List.pairwise_iff_getElem]
  intro i j hi hj hij
  have hj' : j < l.length := by rw [← hsz]; simpa using hj
  have h5 := ho i j (Nat.zero_le _) hij hj'
  rw [lt_cmpR, getElem!_pos d' j (by omega), getElem!_pos d' i (by omega)] at h5
  simpa using h5
end Go.Proofs.YtmomoeagnkjbiaaGreat
/- average.residuals. -/
namespace Go.Proofs.YtmomoeagnkjbiaaGreat
open Go.RowKit

/-- The residuals of the readings up to an index. -/
def resK (t h : List Int) (n d : Int) (k : Nat) : List Int := (List.range k).map fun i => resI (nth t i) (nth h i) n d
theorem resK_len (t h : List Int) (n d : Int) (k : Nat) : (resK t h n d k).length = k := by unfold resK; simp
theorem resK_succ (t h : List Int) (n d : Int) (k : Nat) : resK t h n d (k + 1) = resK t h n d k ++ [resI (nth t k) (nth h k) n d] := by
  unfold resK
  rw [List.range_succ, List.map_append]; rfl
theorem resI_bd {t h n d : Int} (hs : SlOk n d) (t1 : -172800000 ≤ t ∧ t ≤ 172800000) (h1 : -1099511627776 ≤ h ∧ h ≤ 1099511627776) : (Lit.int .i64 (resI t h n d)).wf = true := by
  have := res_bd hs t1
  refine lit_b ?_
  unfold resI
  omega
set_option maxHeartbeats 1000000 in
set_option maxRecDepth 100000 in
theorem av_residuals (vt vh : Value) (t h : List Int) (n dn : Int) (w : World) (ht : Sl w vt t) (hh : Sl w vh h) (hl : t.length = h.length) (h1 : 1 ≤ t.length) (hn : t.length ≤ 1000000) (bt : Bd t 172800000) (bh : Bd h 1099511627776) (hs : SlOk n dn) :
    Calls Tryz.prog 44 #[vt, vh, (.agg #[.int .i64 (n), .int .i64 (dn)])] w (RwO w (resK t h n dn t.length)) := by
  have HR := Lib.hid (fun W i (hi : i < t.length) => av_residual (nth t i) (nth h i) n dn W hs (bt i hi) (bh i (by omega)))
  have HW := Lib.hid (fun i (hi : i < t.length) => resI_bd hs (bt i hi) (bh i (by omega)))
  have HK := Lib.hid (resK_succ t h n dn)
  have HL := Lib.hid (resK_len t h n dn)
  obtain ⟨b, o, cap, rfl, hc, -, hbs, hr⟩ := ht.open (by omega)
  obtain ⟨b2, o2, cap2, rfl, hc2, -, hbs2, hr2⟩ := hh.open (by omega)
  rw [← hl] at hr2 hc2 ⊢
  obtain ⟨m, hm⟩ : ∃ m, t.length = m := ⟨_, rfl⟩
  rw [hm] at HR HW hr hr2 hc hc2 h1 hn ⊢
  have HT := Lib.hid hr
  have HH := Lib.hid hr2
  have HRes : Hid (∀ k, resK t h n dn k = resK t h n dn k) := Lib.hid fun _ => rfl
  generalize resK t h n dn = RES at *
  clear hr hr2 hm hl ht hh bt bh hs HRes
  refine lay_start ?_
  go_enter Tryz.func44, Tryz.ntmps44
  go_wp2_with fail
  go_loopw [7, 11] (fun v7 v11 wr => ∃ (k : Nat) (dd : Ext), k ≤ m ∧ v11 = .int .i64 (k : Int) ∧ wr = lay w [.inr dd, .inl (.cells #[.int .i64 n, .int .i64 dn] 26 (0, 0))] ∧ Ow (lay w [.inr dd, .inl (.cells #[.int .i64 n, .int .i64 dn] 26 (0, 0))]) (lay w [.inl (.cells #[.int .i64 n, .int .i64 dn] 26 (0, 0))]).heap.size v7 (RES k)) (fun _ v11 _ => m - (intOf v11).toNat)
  case atStart => exact ⟨0, noExt _, Nat.zero_le _, rfl, (bw_noExt _).symm, by rw [show RES 0 = [] from List.eq_nil_of_length_eq_zero (HL.out 0)]; exact Ow.nil _ _⟩
  case round =>
    obtain ⟨k, dd, hk, rfl, rfl, hO⟩ := hrel
    have HO := Lib.hid hO
    clear hO
    by_cases hlt : k < m
    · have e1 := HT.out k hlt
      have e2 := HH.out k hlt
      have H1 := Lib.hid (fun W => HR.out W k hlt)
      have hwf := HW.out k hlt
      have hst := HK.out k
      have HST := Lib.hid hst
      have hlen : (RES k).length ≤ 1000000000 := by rw [HL.out]; omega
      have x1 : (k : Int) < (m : Int) := by omega
      have x0 : (0 : Int) ≤ (k : Int) := by omega
      have w3 : IntKind.i64.wrap ((k : Int) + 1) = (k : Int) + 1 := IntWalk.i64_in _ (by omega)
      obtain ⟨P, hP⟩ : ∃ P, resI (nth t k) (nth h k) n dn = P := ⟨_, rfl⟩
      rw [hP] at H1 hwf HST
      generalize nth t k = A at *
      generalize nth h k = B at *
      clear hst hP
      go_wp2_with fail
      refine region_mixT 12 [0, 0, 0, 0, 0, 0, 0, 0, 0, 0, 0, 1] (by kernel_rfl) (by kernel_rfl) (by kernel_rfl) (by kernel_rfl) (by simp) (by kernel_rfl) ?_
      simp only [List.take_succ_cons, List.take_zero, List.drop_succ_cons, List.drop_zero]
      repeat (first | (refine wpM_quiet (fun K hK => ?_); go_simp; first | (refine hK _ ?_; clear hK K) | (apply Exists.intro; refine ⟨fun _ => ?_, hK _ ?_⟩; (first | (go_at_call 93; exact bq (H1.out _) (fun d => ⟨d, rfl⟩))); clear hK K)) | (refine wpM_special (fun K hK d => ?_); go_simp; refine hK _ _ (by first | exact lay_in w [_] _ | exact lay_in w [_, _] _ | exact lay_in w [_, _, _] _ | exact lay_in w [_, _, _, _] _ | exact lay_in w [_, _, _, _, _] _ | exact lay_in w [_, _, _, _, _, _] _) ?_; clear hK K))
      refine wpM_nil ?_
      intro d1
      rw [lay_bw]
      refine push_int rfl _ _ rfl (lay w [.inl (.cells #[.int .i64 n, .int .i64 dn] 26 (0, 0))]) _ P 3 _ _ _ ?_ (ow_on (A := [_, _, _]) HO.out) ?_ rfl rfl hlen hwf ?_
      · exact lay_below (A := [_, _, _, _])
      · exact lay_get w _ 1 _ rfl
      intro v' d' hv'
      have HV := Lib.hid hv'
      clear hv'
      go_wp2_with fail
      go_roundw
      case rel => exact ⟨k + 1, d', hlt, by go_num, rfl, by rw [HST.out]; exact HV.out⟩
      case measure => simp [intOf]; omega
    · obtain rfl : k = m := by omega
      go_wp2_with fail
      go_ret
      obtain ⟨y, hy⟩ := lay_ex w [.inr dd, .inl (.cells #[.int .i64 n, .int .i64 dn] 26 (0, 0))]
      exact ⟨_, y, rfl, hy, by rw [← hy]; exact HO.out.le (lay_below (w := w) (A := [.inl (.cells #[.int .i64 n, .int .i64 dn] 26 (0, 0))]) (B := [])).size⟩
end Go.Proofs.YtmomoeagnkjbiaaGreat
/- average.Line: the quotients of all pairs, the lower median of them: the plain law. -/
namespace Go.Proofs.YtmomoeagnkjbiaaGreat
open Go.RowKit

def mkR (h t : Int) : RisB := if c : (-21600000 ≤ h ∧ h ≤ 21600000) ∧ 1 ≤ t ∧ t ≤ 172800000 then (show RisB from ⟨⟨h, t⟩, c⟩) else default
theorem mkR_h {h t : Int} (c : (-21600000 ≤ h ∧ h ≤ 21600000) ∧ 1 ≤ t ∧ t ≤ 172800000) : (mkR h t).1 = ⟨h, t⟩ := by
  unfold mkR
  split
  · rfl
  · contradiction
/-- The quotient of a pair, if there is one. -/
def rp (t h : List Int) (i k : Nat) : List RisB :=
  if 0 < nth t i - nth t k then [mkR (nth h i - nth h k) (nth t i - nth t k)]
  else if nth t i - nth t k < 0 then [mkR (nth h k - nth h i) (-(nth t i - nth t k))] else []
def risRow (t h : List Int) (i : Nat) : Nat → List RisB
  | 0 => []
  | k + 1 => risRow t h i k ++ rp t h i k
def risAll (t h : List Int) : Nat → List RisB
  | 0 => []
  | i + 1 => risAll t h i ++ risRow t h i i
theorem rp_len (t h : List Int) (i k : Nat) : (rp t h i k).length ≤ 1 := by
  unfold rp
  split
  · simp
  · split <;> simp
theorem risRow_len (t h : List Int) (i : Nat) : ∀ k, (risRow t h i k).length ≤ k
  | 0 => Nat.le_refl _
  | k + 1 => by
    have h1 := risRow_len t h i k
    have h2 := rp_len t h i k
    show (risRow t h i k ++ rp t h i k).length ≤ _
    rw [List.length_append]; omega
theorem risAll_len (t h : List Int) : ∀ i, (risAll t h i).length ≤ i * i
  | 0 => Nat.le_refl _
  | i + 1 => by
    have h1 := risAll_len t h i
    have h2 := risRow_len t h i i
    show (risAll t h i ++ risRow t h i i).length ≤ _
    rw [List.length_append, Nat.succ_mul, Nat.mul_succ]; omega
def srtR (l : List RisB) : List RisB := l.mergeSort fun x y => risLe x.1 y.1
theorem srtR_perm (l : List RisB) : (srtR l).Perm l := List.mergeSort_perm l _
theorem srtR_len (l : List RisB) : (srtR l).length = l.length := List.length_mergeSort l
theorem srtR_pair (l : List RisB) : (srtR l).Pairwise fun x y => risLe x.1 y.1 = true := by
  refine List.pairwise_mergeSort (le := fun x y : RisB => risLe x.1 y.1) (fun a b c h1 h2 => ?_) (fun a b => ?_) l
  · have ha := a.2; have hb := b.2; have hc := c.2
    exact risLe_tr (by omega) (by omega) (by omega) h1 h2
  · rcases risLe_tot a.1 b.1 with h | h <;> simp [h]
/-- The lower median of the quotients. -/
def lnP (l : List RisB) : RisV := ((srtR l)[(l.length - 1) / 2]?.getD default).1
/-- Whichever way the list was sorted: the same fraction. -/
theorem lnP_any {l l' : List RisB} {x : RisB} (hp : l'.Perm l) (hs : l'.Pairwise fun x y => risLe x.1 y.1 = true) (hx : l'[(l.length - 1) / 2]? = some x) :
    mkN (1000 * x.1.h) x.1.t = mkN (1000 * (lnP l).h) (lnP l).t ∧ mkD (1000 * x.1.h) x.1.t = mkD (1000 * (lnP l).h) (lnP l).t ∧ mkBig (1000 * x.1.h) x.1.t = mkBig (1000 * (lnP l).h) (lnP l).t := by
  obtain ⟨hk, e⟩ := List.getElem?_eq_some_iff.1 hx
  have hk2 : (l.length - 1) / 2 < (srtR l).length := by rw [srtR_len]; have := hp.length_eq; omega
  have hq := kth_quot (a := l'.map (·.1)) (b := (srtR l).map (·.1)) (k := (l.length - 1) / 2) (fun y hy => by
      obtain ⟨z, _, rfl⟩ := List.mem_map.1 hy
      have := z.2; omega) (List.pairwise_map.2 hs) (List.pairwise_map.2 (srtR_pair l)) ((hp.trans (srtR_perm l).symm).map _) (by simpa using hk) (by simpa using hk2)
  simp only [List.getElem_map] at hq
  have e2 : lnP l = ((srtR l)[(l.length - 1) / 2]).1 := by unfold lnP; rw [List.getElem?_eq_getElem hk2]; rfl
  rw [e2, ← e]
  have h1 := (l'[(l.length - 1) / 2]).2
  have h2 := ((srtR l)[(l.length - 1) / 2]).2
  refine mk_same (by omega) (by omega) ?_
  rw [Int.mul_assoc, Int.mul_assoc, hq]
/-- Line's error, slope, level. -/
def lnE (t h : List Int) : Int := if chkE t h ≠ 0 then chkE t h else if risAll t h t.length = [] then 12
  else if mkBig (1000 * (lnP (risAll t h t.length)).h) (lnP (risAll t h t.length)).t = true ∨ slpB (mkN (1000 * (lnP (risAll t h t.length)).h) (lnP (risAll t h t.length)).t) (mkD (1000 * (lnP (risAll t h t.length)).h) (lnP (risAll t h t.length)).t) = false then 5 else 0
def lnN (t h : List Int) : Int := if lnE t h = 0 then mkN (1000 * (lnP (risAll t h t.length)).h) (lnP (risAll t h t.length)).t else 0
def lnD (t h : List Int) : Int := if lnE t h = 0 then mkD (1000 * (lnP (risAll t h t.length)).h) (lnP (risAll t h t.length)).t else 0
def lnK (t h : List Int) : Int := if lnE t h = 0 then medI (resK t h (lnN t h) (lnD t h) t.length) else 0
theorem ite_bd (c : Bool) {x : Nat} (h : x ≤ 1073741824) : -1073741824 ≤ (if c = true then -(x : Int) else (x : Int)) ∧ (if c = true then -(x : Int) else (x : Int)) ≤ 1073741824 := by
  cases c <;> simp <;> omega
theorem mk_ok {a b : Int} (hb : 1 ≤ b) (h : mkBig a b = false) : SlOk (mkN a b) (mkD a b) := by
  unfold mkBig at h
  simp only [Bool.or_eq_false_iff, decide_eq_false_iff_not] at h
  have hd : 1 ≤ b.natAbs / Nat.gcd a.natAbs b.natAbs := by
    have hg : 0 < Nat.gcd a.natAbs b.natAbs := Nat.gcd_pos_of_pos_right _ (by omega)
    exact (Nat.one_le_div_iff hg).2 (Nat.gcd_le_right _ (by omega))
  have hn : -1073741824 ≤ mkN a b ∧ mkN a b ≤ 1073741824 := by
    unfold mkN
    exact ite_bd _ (by omega)
  exact ⟨hn.1, hn.2, by unfold mkD; omega, by unfold mkD; omega⟩
theorem chk_bd {t h : List Int} (hc : chkE t h = 0) : t.length = h.length ∧ 1 ≤ t.length ∧ t.length ≤ 1000 ∧ Bd t 86400000 ∧ Bd h 10800000 := by
  unfold chkE at hc
  by_cases c1 : t.length ≠ h.length ∨ t.length < 1 ∨ 1000 < t.length
  · rw [if_pos c1] at hc; cases hc
  · rw [if_neg c1] at hc
    by_cases c2 : outB t 86400000 = true ∨ outB h 10800000 = true
    · rw [if_pos c2] at hc; cases hc
    · have e1 : outB t 86400000 = false := by cases e : outB t 86400000; rfl; exact absurd (.inl e) c2
      have e2 : outB h 10800000 = false := by cases e : outB h 10800000; rfl; exact absurd (.inr e) c2
      exact ⟨by omega, by omega, by omega, outB_bd e1, outB_bd e2⟩
end Go.Proofs.YtmomoeagnkjbiaaGreat
/- slices.Values at ints: its function value, for every loop body that keeps what lay ahead. (The lines are the kit's worked text Test/GgSlicesIterAtTheDump, turned to this program.) -/
namespace Go.Proofs.YtmomoeagnkjbiaaGreat
open Go.RowKit Go.Shelf
attribute [local go_sem] Oper.semAt_some

/-- WHAT HAS COME WHEN k ROUNDS ARE OVER: f 0, .., f (k - 1). -/
def rgU {α : Type} (f : Nat → α) (k : Nat) : List α := (List.range k).map f
theorem rgU_succ {α : Type} (f : Nat → α) (k : Nat) : rgU f (k + 1) = rgU f k ++ [f k] := by simp [rgU, List.range_succ]
theorem rgU_length {α : Type} (f : Nat → α) (k : Nat) : (rgU f k).length = k := by simp [rgU]
theorem rgU_all (zs : List Int) : rgU (fun j => zs[j]?.getD 0) zs.length = zs := by
  apply List.ext_getElem
  · simp [rgU]
  · intro i h1 h2
    simp [rgU, h2]

set_option maxRecDepth 100000 in
set_option maxHeartbeats 2000000 in
/-- **slices.Values's closure: 'for _, v := range s { if !yield(v) { return } }': FOR EVERY LOOP BODY THAT KEEPS WHAT LAY BELOW n₀.** -/
theorem vl_values1_in (F : Fence) (n : Nat) (hV1 : F.fn 142) (hro : F.round = none) (hn : 1 ≤ n) (l Bs n₀ b off len cap : Nat) (zs : List Int) (hreach : len * 8 ≤ 140737488351232) (hb : b < n₀) (J Jx : List Int → World → Prop)
    (hY : ∀ pre x W, J pre W → pre.length < len → YieldAt F (n - 1) Tryz.prog l #[.int .i64 x] W fun e W' =>
      (e = .returned (.bool true) ∧ J (pre ++ [x]) W' ∧ Below n₀ W W') ∨ (e = .returned (.bool false) ∧ Jx (pre ++ [x]) W'))
    (W : World) (hBs : W.cell? ⟨Bs, 0, none⟩ = some (.slice (some ⟨b, off, none⟩) len cap)) (hc : ∀ j, j < len → W.cell? ⟨b, off + j, none⟩ = some (.int .i64 (zs[j]?.getD 0))) (h0 : J [] W) :
    CallsIn F n Tryz.prog 142 #[.func (.yield l) #[] #[], .pointer (some ⟨Bs, 0, none⟩)] W fun e W' => (∃ v, e = .returned v) ∧
      ((∃ ys, ys = rgU (fun j => zs[j]?.getD 0) len ∧ J ys W') ∨ (∃ pre, (∃ k, k ≤ len ∧ pre = rgU (fun j => zs[j]?.getD 0) k) ∧ Jx pre W')) := by
  refine callsIn_of_wp Tryz.func142 rfl hV1 ?_ hro
  simp only [Tryz.ntmps142, List.size_toArray, List.length_cons, List.length_nil, Nat.reduceAdd, Nat.reduceSub, Array.replicate_succ, Array.replicate_zero, List.push_toArray, List.append_toArray, List.nil_append, List.cons_append]
  gi_wp2
  gi_loopw [7] (fun i wr => ∃ k : Nat, k ≤ len ∧ i = .int .i64 k ∧ J (rgU (fun j => zs[j]?.getD 0) k) wr ∧ Below n₀ W wr)
    (fun i _ => len - (intOf i).toNat)
  case atStart => exact ⟨0, Nat.zero_le _, rfl, h0, Below.refl _ _⟩
  case round =>
    obtain ⟨k, hk, rfl, hJs, hnx⟩ := hrel
    have hcx : k < len → wr.cell? ⟨b, off + k, none⟩ = some (.int .i64 (zs[k]?.getD 0)) := fun h => (hnx.cell (p := ⟨b, off + k, none⟩) hb).trans (hc k h)
    by_cases hlt : k < len
    · obtain ⟨fn, tmps, assign, body, hy, hR⟩ := hY _ (zs[k]?.getD 0) wr hJs (by rw [rgU_length]; exact hlt)
      have hcx' := hcx hlt
      gi_wp2
      refine hR.mono ?_
      rintro e W3 (⟨rfl, hJ3, hk3⟩ | ⟨rfl, hJx3⟩)
      · -- THE ROUND GOES ON
        gi_wp2
        go_roundw
        case rel => exact ⟨k + 1, by omega, by simp, by rw [rgU_succ]; exact hJ3, hnx.trans hk3⟩
        case measure => simp [intOf]; omega
      · gi_wp2
        refine bodyPost_ret (results_none rfl _ _ _) rfl ?_
        exact ⟨⟨_, rfl⟩, .inr ⟨_, ⟨k + 1, by omega, (rgU_succ _ _).symm⟩, hJx3⟩⟩
    · obtain rfl : k = len := by omega
      gi_wp2
      go_end0
      exact ⟨⟨_, rfl⟩, .inl ⟨_, rfl, hJs⟩⟩

theorem rgU_take (zs : List Int) {k : Nat} (hk : k ≤ zs.length) : rgU (fun j => zs[j]?.getD 0) k = zs.take k := by
  apply List.ext_getElem
  · simp [rgU, hk]
  · intro i h1 h2
    have : i < zs.length := by simp [rgU] at h1; omega
    simp [rgU, this]

/-- THE SLICE VALUE sv HOLDS THE ints zs, in a block below n₀; or it is nil and there are none. -/
def IntsV (n₀ : Nat) (W : World) (sv : Value) (zs : List Int) : Prop :=
  (sv = .slice none 0 0 ∧ zs = []) ∨ ∃ b off cap, sv = .slice (some ⟨b, off, none⟩) zs.length cap ∧ b < n₀ ∧ ∀ j, j < zs.length → W.cell? ⟨b, off + j, none⟩ = some (.int .i64 (zs[j]?.getD 0))
theorem IntsV.below {n₀ : Nat} {A B : World} (h : Below n₀ A B) {sv : Value} {zs : List Int} : IntsV n₀ A sv zs → IntsV n₀ B sv zs
  | .inl e => .inl e
  | .inr ⟨b, off, cap, e, hb, hc⟩ => .inr ⟨b, off, cap, e, hb, fun j hj => (h.cell (p := ⟨b, off + j, none⟩) hb).trans (hc j hj)⟩

set_option maxRecDepth 100000 in
set_option maxHeartbeats 1000000 in
/-- .. at the nil slice: no round. -/
theorem vl_values1_nil_in (F : Fence) (n : Nat) (hV1 : F.fn 142) (hro : F.round = none) (l Bs : Nat) (J : List Int → World → Prop) (W : World) (hBs : W.cell? ⟨Bs, 0, none⟩ = some (.slice none 0 0)) (h0 : J [] W) :
    CallsIn F n Tryz.prog 142 #[.func (.yield l) #[] #[], .pointer (some ⟨Bs, 0, none⟩)] W fun e W' => (∃ v, e = .returned v) ∧ J [] W' := by
  refine callsIn_of_wp Tryz.func142 rfl hV1 ?_ hro
  simp only [Tryz.ntmps142, List.size_toArray, List.length_cons, List.length_nil, Nat.reduceAdd, Nat.reduceSub, Array.replicate_succ, Array.replicate_zero, List.push_toArray, List.append_toArray, List.nil_append, List.cons_append]
  gi_wp2
  gi_loopw [7] (fun i wr => i = .int .i64 0 ∧ J [] wr) (fun _ _ => 0)
  case atStart => exact ⟨rfl, h0⟩
  case round =>
    obtain ⟨rfl, hJs⟩ := hrel
    gi_wp2
    go_end0
    exact ⟨⟨_, rfl⟩, hJs⟩

set_option maxHeartbeats 1000000 in
/-- **slices.Values(s)**: the slice value is boxed; the function value captures the box. -/
theorem vl_values_in (F : Fence) (n : Nat) (hV : F.fn 92) (hro : F.round = none) (a : Option Addr) (len cap : Nat) (w : World) :
    CallsIn F n Tryz.prog 92 #[.slice a len cap] w fun e w' => e = .returned (.func (.func 142) #[] #[.pointer (some ⟨w.heap.size, 0, none⟩)]) ∧ w' = w.alloc (.cells #[.slice a len cap] 41) := by
  refine callsIn_of_wp Tryz.func92 rfl hV ?_ hro
  simp only [Tryz.ntmps92, List.size_toArray, List.length_cons, List.length_nil, Nat.reduceAdd, Nat.reduceSub, Array.replicate_succ, Array.replicate_zero, List.push_toArray, List.append_toArray, List.nil_append, List.cons_append]
  gi_wp2
  go_ret
  exact ⟨rfl, rfl⟩

/-- **slices.Values(s) HANDS BACK A VALUE THAT 'SeqStopsK', AT 'Kp := Below n₀'**: all of zs, in order; or a prefix. EVERY SLICE OF ints WITHIN THE REACH, THE nil ONE TOO. -/
theorem vl_values_stops (F : Fence) (n : Nat) (hV1 : F.fn 142) (hro : F.round = none) (hn : 1 ≤ n) (Bs n₀ : Nat) (sv : Value) (zs : List Int) (hreach : zs.length * 8 ≤ 140737488351232) (w : World) (hBs : Bs < w.heap.size) (hn₀ : n₀ ≤ w.heap.size)
    (hc : w.cell? ⟨Bs, 0, none⟩ = some sv) (hI : IntsV n₀ w sv zs) :
    SeqStopsK F n Tryz.prog 142 #[.pointer (some ⟨Bs, 0, none⟩)] (fun x : Int => #[Value.int .i64 x]) (Below n₀) (fun ys => ys = zs) (fun pre => pre <+: zs) zs.length w := fun l J Jx W hW _ _ hY h0 => by
  have hc' := (hW.cell (p := ⟨Bs, 0, none⟩) hBs).trans hc
  rcases hI.below (hW.mono hn₀) with ⟨rfl, rfl⟩ | ⟨b, off, cap, rfl, hb, hcs⟩
  · exact (vl_values1_nil_in F n hV1 hro l Bs J W hc' h0).mono fun e W' ⟨he, hj⟩ => ⟨he, .inl ⟨_, rfl, hj⟩⟩
  · refine (vl_values1_in F n hV1 hro hn l Bs n₀ b off zs.length cap zs hreach hb J Jx hY W hc' hcs h0).mono ?_
    rintro e W' ⟨he, ⟨ys, rfl, hj⟩ | ⟨pre, ⟨k, hk, rfl⟩, hj⟩⟩
    · exact ⟨he, .inl ⟨_, rgU_all zs, hj⟩⟩
    · exact ⟨he, .inr ⟨_, by rw [rgU_take zs hk]; exact List.take_prefix _ _, hj⟩⟩

end Go.Proofs.YtmomoeagnkjbiaaGreat
/- slices.AppendSeq of slices.Values at ints. (The walk follows the kit's worked text Test/GgPosAtTheDump.) -/
namespace Go.Proofs.YtmomoeagnkjbiaaGreat
open Go.RowKit Go.Shelf
attribute [local go_sem] Oper.semAt_some

theorem info_int : (Tryz.prog.info? 3).map (fun i => (i.zero, i.size, i.bytes)) = some (some (.int .i64 0), 1, 8) := by kernel_rfl
set_option maxRecDepth 100000 in
set_option maxHeartbeats 2000000 in
theorem vl_append (F : Fence) (n : Nat) (hA : F.fn 168) (hV1 : F.fn 142) (hro : F.round = none) (hn : 3 ≤ n) (Bs : Nat) (sv : Value) (zs : List Int) (hlen : zs.length ≤ 1000000000) (w : World) (hBs : Bs < w.heap.size)
    (hc : w.cell? ⟨Bs, 0, none⟩ = some sv) (hI : IntsV w.heap.size w sv zs) :
    CallsIn F n Tryz.prog 168 #[.slice none 0 0, .func (.func 142) #[] #[.pointer (some ⟨Bs, 0, none⟩)]] w fun e W' => ∃ v, e = .returned v ∧ W'.ownsRow w.heap.size 3 1 v zs.length (zs.map (Value.int .i64)) ∧ Below w.heap.size w W' := by
  have h1 : 1 ≤ n := by omega
  obtain ⟨i0, hi, hz0, hz1, hz2⟩ := info_parts info_int
  refine callsIn_of_wp_marks Tryz.func168 rfl hA ?_ hro
  simp only [Tryz.ntmps168, List.size_toArray, List.length_cons, List.length_nil, Nat.reduceAdd, Nat.reduceSub, Array.replicate_succ, Array.replicate_zero, List.push_toArray, List.append_toArray, List.nil_append, List.cons_append]
  gi_wp2
  have bO := Boxed.new w 41 (.slice none 0 0)
  have hB0 : Below w.heap.size w (w.alloc (.cells #[.slice none 0 0] 41)) := (Below.refl _ w).alloc (Nat.le_refl _) _
  refine wpIn_rangeFunc_ownG hro h1 (gf := 142) (lb := #[.pointer (some ⟨Bs, 0, none⟩)]) rfl hV1 (enters_of Tryz.func142 (by kernel_rfl) rfl)
    (vl_values_stops F (n - 1) hV1 hro (by omega) Bs w.heap.size sv zs (by omega) _ (by simp; omega) (by simp) ((hB0.cell (p := ⟨Bs, 0, none⟩) hBs).trans hc) (hI.below hB0)) belowK_t (belowK_b (by simp)) (Below.refl _ _) (fun _ => rfl)
    (fun pre W => (∃ v, Boxed W w.heap.size 41 v ∧ W.ownsRow w.heap.size 3 1 v pre.length (pre.map (Value.int .i64)) ∧ (v = .slice none 0 0 ↔ pre = [])) ∧ Below w.heap.size w W)
    (fun _ _ _ => False)
    (OwnFrom.and (Own.from (holdsRow_own w.heap.size w.heap.size 41 3 1 (fun pre : List Int => pre.length) (fun pre => pre.map (Value.int .i64)) (fun pre v => v = .slice none 0 0 ↔ pre = [])) _) (ownFrom_below (Nat.le_refl _) (by simp)))
    (fun _ _ _ _ _ hs _ _ => hs)
    ⟨⟨_, bO, World.ownsRow_nil _ _ _ _, by simp⟩, hB0⟩
    (fun x => { tmps := #[.slice none 0 0, .func (.func 142) #[] #[.pointer (some ⟨Bs, 0, none⟩)], .pointer (some ⟨w.heap.size, 0, none⟩), undef, .slice none 0 0, .int .i64 x, .func (.func 142) #[] #[.pointer (some ⟨Bs, 0, none⟩)], .int .i64 x, undef, undef, undef, undef, undef], defers := [] }) ?assign ?body ?done ?stop
  case assign =>
    intro l x W K hK
    gi_wp2
    exact hK
  case body =>
    rintro l pre x W ⟨⟨v, hv, hrow, hnil⟩, hB⟩ hlt
    have hcb := hv.cell
    have hM : maxLen = 9223372036854775807 := by decide
    gi_wp2_with (gi_at_builtin; refine wpListIn_append_own _ rfl _ _ 41 rfl w.heap.size 3 i0 (.int .i64 0) 1 8 Tryz.underlying41 hi hz0 hz1 hz2 rfl (by decide) _ _ _ rfl (hrow.alloc _) ⟨W.heap.size, 0, none⟩ 1 1 [.int .i64 x] rfl rfl (cell_one_new _ _ _) (by simp [Value.oneCell']) (by omega) (by omega) (by have := hB.size; simp; omega) ?_; intro v' w1 hown' hgrow _; obtain ⟨g', cap', rfl⟩ := ownsRow_succ hown'; obtain ⟨hv1, hv2, hr2, hk2, hb2⟩ := hv.appended (by decide) hrow hB.size (Nat.le_refl _) hown' hgrow; have hc1 := hv1.cell; have hf1 := hv1.frozen)
    exact ⟨hk2.from _, hb2, ⟨_, hv2, by simpa using hr2, by simp⟩, hB.trans hb2⟩
  case done =>
    rintro D ys W hD rfl ⟨⟨v, hv, hrow, hnil⟩, hB⟩ hK
    have hcb := hv.cell
    gi_wp2
    refine ⟨by simp, .inl ⟨_, _, rfl, run_takeDeferred hK, ?_⟩⟩
    exact ⟨_, results_tmp rfl _ _ _, v, rfl, ownsRow_putObj hrow _ hK rfl, hB.trans (belowK_b (w := w) (Nat.le_refl _) W D _ _ (by simp at hD; omega) hK rfl rfl)⟩
  case stop =>
    rintro D c pre W _ _ h _
    exact h.elim
end Go.Proofs.YtmomoeagnkjbiaaGreat
/- slices.Collect of slices.Values at ints. -/
namespace Go.Proofs.YtmomoeagnkjbiaaGreat
open Go.RowKit Go.Shelf
attribute [local go_sem] Oper.semAt_some

set_option maxHeartbeats 1000000 in
theorem vl_collect (F : Fence) (n : Nat) (hC : F.fn 140) (hA : F.fn 168) (hV1 : F.fn 142) (hro : F.round = none) (hn : 4 ≤ n) (Bs : Nat) (sv : Value) (zs : List Int) (hlen : zs.length ≤ 1000000000) (w : World) (hBs : Bs < w.heap.size)
    (hc : w.cell? ⟨Bs, 0, none⟩ = some sv) (hI : IntsV w.heap.size w sv zs) :
    CallsIn F n Tryz.prog 140 #[.func (.func 142) #[] #[.pointer (some ⟨Bs, 0, none⟩)]] w fun e W' => ∃ v, e = .returned v ∧ W'.ownsRow w.heap.size 3 1 v zs.length (zs.map (Value.int .i64)) ∧ Below w.heap.size w W' := by
  have h1 : 1 ≤ n := by omega
  refine callsIn_of_wp Tryz.func140 rfl hC ?_ hro
  simp only [Tryz.ntmps140, List.size_toArray, List.length_cons, List.length_nil, Nat.reduceAdd, Nat.reduceSub, Array.replicate_succ, Array.replicate_zero, List.push_toArray, List.append_toArray, List.nil_append, List.cons_append]
  gi_wp2_with (gi_at_call 168; refine (vl_append F (n - 1) hA hV1 hro (by omega) Bs sv zs hlen _ hBs hc hI).mono ?_; rintro e w' ⟨v, rfl, hrow, hb⟩)
  go_ret
  exact ⟨v, rfl, hrow, hb⟩
end Go.Proofs.YtmomoeagnkjbiaaGreat

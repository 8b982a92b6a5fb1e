/- Contracts and plain laws, several texts in one: Ris; Av5; LnP; Av6 -/
import Derived.Test.YtmomoeagnkjbiaaGreatProg
import Derived.WalkKit
import Derived.WalkSpells
import Derived.WalkLawsBesides
import Derived.Lib.Hide
import Derived.BigQuiet
import Derived.Test.YtmomoeagnkjbiaaGreatBAA
import Derived.Test.YtmomoeagnkjbiaaGreatBAB
import Derived.Test.YtmomoeagnkjbiaaGreatBAC
import Derived.Test.YtmomoeagnkjbiaaGreatBAG
import Derived.Test.YtmomoeagnkjbiaaGreatBAH
import Derived.Test.YtmomoeagnkjbiaaGreatBAI
import Derived.Test.YtmomoeagnkjbiaaGreatBAK
import Derived.Test.YtmomoeagnkjbiaaGreatBAT
/- average.Line: its rows of quotients; the library's sort of them. -/
namespace Go.Proofs.YtmomoeagnkjbiaaGreat
open Go.RowKit Go.Sort Go.Shelf

/-- A quotient within bounds. -/
def RisB : Type := { x : RisV // (-21600000 ≤ x.h ∧ x.h ≤ 21600000) ∧ 1 ≤ x.t ∧ x.t ≤ 172800000 }
instance : Inhabited RisB := ⟨⟨⟨0, 1⟩, by decide⟩⟩
def riR : RecT RisB := { E := 83, S := 81, k := 2, bytes := 16, enc := fun x => [.int .i64 x.1.h, .int .i64 x.1.t], wf := fun _ => True }
theorem info_ri : (Tryz.prog.info? 83).map (fun i => (i.zero.map (fun z => z.cells.size), i.size, i.bytes)) = some (some 2, 2, 16) := by kernel_rfl
theorem riOk : RecOk riR where
  len _ := rfl
  one x u hu := by
    rcases List.mem_cons.1 hu with rfl | hu
    · rfl
    · rw [List.mem_singleton.1 hu]; rfl
  pos := by decide
  und := Tryz.underlying81
  info := by
    have h := info_ri
    cases hi : Tryz.prog.info? 83 with
    | none => rw [hi] at h; cases h
    | some i =>
      rw [hi] at h
      simp only [Option.map_some, Option.some.injEq, Prod.mk.injEq] at h
      obtain ⟨h1, h2, h3⟩ := h
      cases hz : i.zero with
      | none => rw [hz] at h1; cases h1
      | some z =>
        rw [hz] at h1
        simp only [Option.map_some, Option.some.injEq] at h1
        exact ⟨i, z, hi, hz, h2, h3, h1⟩
  small := by decide
def cmpR (x y : RisB) : Int := x.1.h * y.1.t - y.1.h * x.1.t
theorem lt_cmpR (x y : RisB) : ltOf cmpR x y = !risLe y.1 x.1 := by
  unfold ltOf cmpR risLe
  rw [Bool.eq_iff_iff]; simp; omega
theorem swo_cmpR : SWO (ltOf cmpR) where
  irrefl x := by rw [lt_cmpR]; unfold risLe; simp
  trans x y z h1 h2 := by
    rw [lt_cmpR] at *
    simp only [Bool.not_eq_true'] at *
    have hx := x.2; have hy := y.2; have hz := z.2
    cases h : risLe z.1 x.1
    · rfl
    · have h3 := (risLe_tot z.1 y.1).resolve_left (by rw [h2]; decide)
      have := risLe_tr (by omega) (by omega) (by omega) h3 h
      rw [h1] at this; cases this
  ntrans x y z h1 h2 := by
    rw [lt_cmpR] at *
    simp only [Bool.not_eq_false'] at *
    have hx := x.2; have hy := y.2; have hz := z.2
    exact risLe_tr (by omega) (by omega) (by omega) h2 h1
theorem cmp_bd (x y : RisB) : -3732480000000000 ≤ x.1.h * y.1.t ∧ x.1.h * y.1.t ≤ 3732480000000000 := by
  have hx := x.2; have hy := y.2
  have h1 : (x.1.h * y.1.t).natAbs ≤ 21600000 * 172800000 := by rw [Int.natAbs_mul]; exact Nat.mul_le_mul (by omega) (by omega)
  omega
set_option maxHeartbeats 400000 in
theorem av_Line1 (x y : RisB) (w : World) :
    Calls Tryz.prog 40 #[(.agg #[.int .i64 (x.1.h), .int .i64 (x.1.t)]), (.agg #[.int .i64 (y.1.h), .int .i64 (y.1.t)])] w fun e w' => e = .returned (.int .i64 (cmpR x y)) ∧ w' = lay w [.inl (.cells #[.int .i64 y.1.h, .int .i64 y.1.t] 83 (0, 0)), .inl (.cells #[.int .i64 x.1.h, .int .i64 x.1.t] 83 (0, 0))] := by
  have h1 := cmp_bd x y
  have h2 := cmp_bd y x
  have k1 : IntKind.i64.wrap (x.1.h * y.1.t) = x.1.h * y.1.t := IntWalk.i64_in _ (by omega)
  have k2 : IntKind.i64.wrap (y.1.h * x.1.t) = y.1.h * x.1.t := IntWalk.i64_in _ (by omega)
  have k3 : IntKind.i64.wrap (x.1.h * y.1.t - y.1.h * x.1.t) = cmpR x y := IntWalk.i64_in _ (by omega)
  have k4 : IntKind.i64.wrap (cmpR x y) = cmpR x y := by rw [← k3]; exact IntWalk.i64_in _ (by rw [k3]; unfold cmpR; omega)
  clear h1 h2
  generalize x.1.h = xh at *
  generalize x.1.t = xt at *
  generalize y.1.h = yh at *
  generalize y.1.t = yt at *
  refine lay_start ?_
  go_enter Tryz.func40, Tryz.ntmps40
  go_wp2_with fail
  go_ret
  exact ⟨rfl, rfl⟩
theorem lay2_growR (W : World) (o1 o2 : Obj) : Go.Proofs.YtmomoeagnkjbiaaGreat.lay W [.inl o1, .inl o2] = grow (W.drewN 0) (#[o2] ++ #[o1]) := by
  show (W.alloc o2).alloc o1 = _
  rw [alloc_eq_grow, alloc_eq_grow, grow_grow]; rfl
theorem cmpLays_ri (blk off size : Nat) (w : World) : CmpLays Tryz.prog 40 #[] riR.enc 2 cmpR blk off size w :=
  fun _ _ _ _ x y => (av_Line1 x y _).mono fun _ _ ⟨he, hw⟩ => ⟨he, 0, _, hw.trans (lay2_growR _ _ _)⟩
theorem isAgg_ri : ∀ w, (isAgg 83).run Tryz.prog w = .ok true w := fun _ => by kernel_rfl
theorem sizeOf_ri : ∀ w, (Go.sizeOf 83).run Tryz.prog w = .ok 2 w := fun _ => by kernel_rfl
theorem av_sort (W0 : World) (v : Value) (l : List RisB) (w : World) (hw : Below W0.heap.size W0 w) (h : OwG riR w W0.heap.size v l) (hl : 0 < l.length) (hb : l.length ≤ 1000000000) :
    Calls Tryz.prog 39 #[v, .func (.func 40) #[] #[]] w fun e w' => e = .returned (.tuple #[]) ∧ ∃ d l', w' = bw W0 d ∧ l'.Perm l ∧ l'.Pairwise (fun a b => risLe a.1 b.1 = true) ∧ OwG riR (bw W0 d) W0.heap.size v l' := by
  obtain ⟨g, cap, rfl, h1, h2, h3⟩ := h.form1 hl
  have eg : ∀ args w, (callFunc 40 args).run Tryz.prog w = .ok (.enter 40 args) w := enters_of Tryz.func40 (by kernel_rfl) rfl
  have hcon := AnyQ.slices_SortFunc Tryz.sortRise 2 isAgg_ri sizeOf_ri riR.enc riOk.len riOk.one cmpR swo_cmpR 40 #[] g 0 cap l.toArray w eg (cmpLays_ri g 0 l.toArray.size w) (holdsK_row riOk h) h2 (by simp; omega)
  have hs : l.toArray.size = l.length := by simp
  rw [hs] at hcon
  refine Calls.mono hcon fun e w' ⟨he, d', n, os, hp, ho, hw'⟩ => ⟨he, ?_⟩
  have hsz : d'.size = l.length := by rw [← hs]; exact hp.1
  have hperm : d'.toList.Perm l := by
    have := hp.2.2
    rw [Array.extract_eq_self_of_le (by rw [hsz]; exact Nat.le_refl _), Array.extract_eq_self_of_le (by rw [hs]; exact Nat.le_refl _)] at this
    exact this
  obtain ⟨e', he', hown⟩ := owG_sorted riOk hw h hsz (n := n) (os := os) (fun x hx => h.2 x (hperm.mem_iff.1 hx))
  refine ⟨e', d'.toList, hw'.trans he', hperm, ?_, hown⟩
  rw [List.pairwise_iff_getElem]
  intro i j hi hj hij
  have hj' : j < l.length := by rw [← hsz]; simpa using hj
  have h5 := ho i j (Nat.zero_le _) hij hj'
  rw [lt_cmpR, getElem!_pos d' j (by omega), getElem!_pos d' i (by omega)] at h5
  simpa using h5
end Go.Proofs.YtmomoeagnkjbiaaGreat
/- average.residuals. -/
namespace Go.Proofs.YtmomoeagnkjbiaaGreat
open Go.RowKit

/-- The residuals of the readings up to an index. -/
def resK (t h : List Int) (n d : Int) (k : Nat) : List Int := (List.range k).map fun i => resI (nth t i) (nth h i) n d
theorem resK_len (t h : List Int) (n d : Int) (k : Nat) : (resK t h n d k).length = k := by unfold resK; simp
theorem resK_succ (t h : List Int) (n d : Int) (k : Nat) : resK t h n d (k + 1) = resK t h n d k ++ [resI (nth t k) (nth h k) n d] := by
  unfold resK
  rw [List.range_succ, List.map_append]; rfl
theorem resI_bd {t h n d : Int} (hs : SlOk n d) (t1 : -172800000 ≤ t ∧ t ≤ 172800000) (h1 : -1099511627776 ≤ h ∧ h ≤ 1099511627776) : (Lit.int .i64 (resI t h n d)).wf = true := by
  have := res_bd hs t1
  refine lit_b ?_
  unfold resI
  omega
set_option maxHeartbeats 1000000 in
set_option maxRecDepth 100000 in
theorem av_residuals (vt vh : Value) (t h : List Int) (n dn : Int) (w : World) (ht : Sl w vt t) (hh : Sl w vh h) (hl : t.length = h.length) (h1 : 1 ≤ t.length) (hn : t.length ≤ 1000000) (bt : Bd t 172800000) (bh : Bd h 1099511627776) (hs : SlOk n dn) :
    Calls Tryz.prog 44 #[vt, vh, (.agg #[.int .i64 (n), .int .i64 (dn)])] w (RwO w (resK t h n dn t.length)) := by
  have HR := Lib.hid (fun W i (hi : i < t.length) => av_residual (nth t i) (nth h i) n dn W hs (bt i hi) (bh i (by omega)))
  have HW := Lib.hid (fun i (hi : i < t.length) => resI_bd hs (bt i hi) (bh i (by omega)))
  have HK := Lib.hid (resK_succ t h n dn)
  have HL := Lib.hid (resK_len t h n dn)
  obtain ⟨b, o, cap, rfl, hc, -, hbs, hr⟩ := ht.open (by omega)
  obtain ⟨b2, o2, cap2, rfl, hc2, -, hbs2, hr2⟩ := hh.open (by omega)
  rw [← hl] at hr2 hc2 ⊢
  obtain ⟨m, hm⟩ : ∃ m, t.length = m := ⟨_, rfl⟩
  rw [hm] at HR HW hr hr2 hc hc2 h1 hn ⊢
  have HT := Lib.hid hr
  have HH := Lib.hid hr2
  have HRes : Hid (∀ k, resK t h n dn k = resK t h n dn k) := Lib.hid fun _ => rfl
  generalize resK t h n dn = RES at *
  clear hr hr2 hm hl ht hh bt bh hs HRes
  refine lay_start ?_
  go_enter Tryz.func44, Tryz.ntmps44
  go_wp2_with fail
  go_loopw [7, 11] (fun v7 v11 wr => ∃ (k : Nat) (dd : Ext), k ≤ m ∧ v11 = .int .i64 (k : Int) ∧ wr = lay w [.inr dd, .inl (.cells #[.int .i64 n, .int .i64 dn] 26 (0, 0))] ∧ Ow (lay w [.inr dd, .inl (.cells #[.int .i64 n, .int .i64 dn] 26 (0, 0))]) (lay w [.inl (.cells #[.int .i64 n, .int .i64 dn] 26 (0, 0))]).heap.size v7 (RES k)) (fun _ v11 _ => m - (intOf v11).toNat)
  case atStart => exact ⟨0, noExt _, Nat.zero_le _, rfl, (bw_noExt _).symm, by rw [show RES 0 = [] from List.eq_nil_of_length_eq_zero (HL.out 0)]; exact Ow.nil _ _⟩
  case round =>
    obtain ⟨k, dd, hk, rfl, rfl, hO⟩ := hrel
    have HO := Lib.hid hO
    clear hO
    by_cases hlt : k < m
    · have e1 := HT.out k hlt
      have e2 := HH.out k hlt
      have H1 := Lib.hid (fun W => HR.out W k hlt)
      have hwf := HW.out k hlt
      have hst := HK.out k
      have HST := Lib.hid hst
      have hlen : (RES k).length ≤ 1000000000 := by rw [HL.out]; omega
      have x1 : (k : Int) < (m : Int) := by omega
      have x0 : (0 : Int) ≤ (k : Int) := by omega
      have w3 : IntKind.i64.wrap ((k : Int) + 1) = (k : Int) + 1 := IntWalk.i64_in _ (by omega)
      obtain ⟨P, hP⟩ : ∃ P, resI (nth t k) (nth h k) n dn = P := ⟨_, rfl⟩
      rw [hP] at H1 hwf HST
      generalize nth t k = A at *
      generalize nth h k = B at *
      clear hst hP
      go_wp2_with fail
      refine region_mixT 12 [0, 0, 0, 0, 0, 0, 0, 0, 0, 0, 0, 1] (by kernel_rfl) (by kernel_rfl) (by kernel_rfl) (by kernel_rfl) (by simp) (by kernel_rfl) ?_
      simp only [List.take_succ_cons, List.take_zero, List.drop_succ_cons, List.drop_zero]
      repeat (first | (refine wpM_quiet (fun K hK => ?_); go_simp; first | (refine hK _ ?_; clear hK K) | (apply Exists.intro; refine ⟨fun _ => ?_, hK _ ?_⟩; (first | (go_at_call 93; exact bq (H1.out _) (fun d => ⟨d, rfl⟩))); clear hK K)) | (refine wpM_special (fun K hK d => ?_); go_simp; refine hK _ _ (by first | exact lay_in w [_] _ | exact lay_in w [_, _] _ | exact lay_in w [_, _, _] _ | exact lay_in w [_, _, _, _] _ | exact lay_in w [_, _, _, _, _] _ | exact lay_in w [_, _, _, _, _, _] _) ?_; clear hK K))
      refine wpM_nil ?_
      intro d1
      rw [lay_bw]
      refine push_int rfl _ _ rfl (lay w [.inl (.cells #[.int .i64 n, .int .i64 dn] 26 (0, 0))]) _ P 3 _ _ _ ?_ (ow_on (A := [_, _, _]) HO.out) ?_ rfl rfl hlen hwf ?_
      · exact lay_below (A := [_, _, _, _])
      · exact lay_get w _ 1 _ rfl
      intro v' d' hv'
      have HV := Lib.hid hv'
      clear hv'
      go_wp2_with fail
      go_roundw
      case rel => exact ⟨k + 1, d', hlt, by go_num, rfl, by rw [HST.out]; exact HV.out⟩
      case measure => simp [intOf]; omega
    · obtain rfl : k = m := by omega
      go_wp2_with fail
      go_ret
      obtain ⟨y, hy⟩ := lay_ex w [.inr dd, .inl (.cells #[.int .i64 n, .int .i64 dn] 26 (0, 0))]
      exact ⟨_, y, rfl, hy, by rw [← hy]; exact HO.out.le (lay_below (w := w) (A := [.inl (.cells #[.int .i64 n, .int .i64 dn] 26 (0, 0))]) (B := [])).size⟩
end Go.Proofs.YtmomoeagnkjbiaaGreat
/- average.Line: the quotients of all pairs, the lower median of them: the plain law. -/
namespace Go.Proofs.YtmomoeagnkjbiaaGreat
open Go.RowKit

def mkR (h t : Int) : RisB := if c : (-21600000 ≤ h ∧ h ≤ 21600000) ∧ 1 ≤ t ∧ t ≤ 172800000 then (show RisB from ⟨⟨h, t⟩, c⟩) else default
theorem mkR_h {h t : Int} (c : (-21600000 ≤ h ∧ h ≤ 21600000) ∧ 1 ≤ t ∧ t ≤ 172800000) : (mkR h t).1 = ⟨h, t⟩ := by
  unfold mkR
  split
  · rfl
  · contradiction
/-- The quotient of a pair, if there is one. -/
def rp (t h : List Int) (i k : Nat) : List RisB :=
  if 0 < nth t i - nth t k then [mkR (nth h i - nth h k) (nth t i - nth t k)]
  else if nth t i - nth t k < 0 then [mkR (nth h k - nth h i) (-(nth t i - nth t k))] else []
def risRow (t h : List Int) (i : Nat) : Nat → List RisB
  | 0 => []
  | k + 1 => risRow t h i k ++ rp t h i k
def risAll (t h : List Int) : Nat → List RisB
  | 0 => []
  | i + 1 => risAll t h i ++ risRow t h i i
theorem rp_len (t h : List Int) (i k : Nat) : (rp t h i k).length ≤ 1 := by
  unfold rp
  split
  · simp
  · split <;> simp
theorem risRow_len (t h : List Int) (i : Nat) : ∀ k, (risRow t h i k).length ≤ k
  | 0 => Nat.le_refl _
  | k + 1 => by
    have h1 := risRow_len t h i k
    have h2 := rp_len t h i k
    show (risRow t h i k ++ rp t h i k).length ≤ _
    rw [List.length_append]; omega
theorem risAll_len (t h : List Int) : ∀ i, (risAll t h i).length ≤ i * i
  | 0 => Nat.le_refl _
  | i + 1 => by
    have h1 := risAll_len t h i
    have h2 := risRow_len t h i i
    show (risAll t h i ++ risRow t h i i).length ≤ _
    rw [List.length_append, Nat.succ_mul, Nat.mul_succ]; omega
def srtR (l : List RisB) : List RisB := l.mergeSort fun x y => risLe x.1 y.1
theorem srtR_perm (l : List RisB) : (srtR l).Perm l := List.mergeSort_perm l _
theorem srtR_len (l : List RisB) : (srtR l).length = l.length := List.length_mergeSort l
theorem srtR_pair (l : List RisB) : (srtR l).Pairwise fun x y => risLe x.1 y.1 = true := by
  refine List.pairwise_mergeSort (le := fun x y : RisB => risLe x.1 y.1) (fun a b c h1 h2 => ?_) (fun a b => ?_) l
  · have ha := a.2; have hb := b.2; have hc := c.2
    exact risLe_tr (by omega) (by omega) (by omega) h1 h2
  · rcases risLe_tot a.1 b.1 with h | h <;> simp [h]
/-- The lower median of the quotients. -/
def lnP (l : List RisB) : RisV := ((srtR l)[(l.length - 1) / 2]?.getD default).1
/-- Whichever way the list was sorted: the same fraction. -/
theorem lnP_any {l l' : List RisB} {x : RisB} (hp : l'.Perm l) (hs : l'.Pairwise fun x y => risLe x.1 y.1 = true) (hx : l'[(l.length - 1) / 2]? = some x) :
    mkN (1000 * x.1.h) x.1.t = mkN (1000 * (lnP l).h) (lnP l).t ∧ mkD (1000 * x.1.h) x.1.t = mkD (1000 * (lnP l).h) (lnP l).t ∧ mkBig (1000 * x.1.h) x.1.t = mkBig (1000 * (lnP l).h) (lnP l).t := by
  obtain ⟨hk, e⟩ := List.getElem?_eq_some_iff.1 hx
  have hk2 : (l.length - 1) / 2 < (srtR l).length := by rw [srtR_len]; have := hp.length_eq; omega
  have hq := kth_quot (a := l'.map (·.1)) (b := (srtR l).map (·.1)) (k := (l.length - 1) / 2) (fun y hy => by
      obtain ⟨z, _, rfl⟩ := List.mem_map.1 hy
      have := z.2; omega) (List.pairwise_map.2 hs) (List.pairwise_map.2 (srtR_pair l)) ((hp.trans (srtR_perm l).symm).map _) (by simpa using hk) (by simpa using hk2)
  simp only [List.getElem_map] at hq
  have e2 : lnP l = ((srtR l)[(l.length - 1) / 2]).1 := by unfold lnP; rw [List.getElem?_eq_getElem hk2]; rfl
  rw [e2, ← e]
  have h1 := (l'[(l.length - 1) / 2]).2
  have h2 := ((srtR l)[(l.length - 1) / 2]).2
  refine mk_same (by omega) (by omega) ?_
  rw [Int.mul_assoc, Int.mul_assoc, hq]
/-- Line's error, slope, level. -/
def lnE (t h : List Int) : Int := if chkE t h ≠ 0 then chkE t h else if risAll t h t.length = [] then 12
  else if mkBig (1000 * (lnP (risAll t h t.length)).h) (lnP (risAll t h t.length)).t = true ∨ slpB (mkN (1000 * (lnP (risAll t h t.length)).h) (lnP (risAll t h t.length)).t) (mkD (1000 * (lnP (risAll t h t.length)).h) (lnP (risAll t h t.length)).t) = false then 5 else 0
def lnN (t h : List Int) : Int := if lnE t h = 0 then mkN (1000 * (lnP (risAll t h t.length)).h) (lnP (risAll t h t.length)).t else 0
def lnD (t h : List Int) : Int := if lnE t h = 0 then mkD (1000 * (lnP (risAll t h t.length)).h) (lnP (risAll t h t.length)).t else 0
def lnK (t h : List Int) : Int := if lnE t h = 0 then medI (resK t h (lnN t h) (lnD t h) t.length) else 0
theorem ite_bd (c : Bool) {x : Nat} (h : x ≤ 1073741824) : -1073741824 ≤ (if c = true then -(x : Int) else (x : Int)) ∧ (if c = true then -(x : Int) else (x : Int)) ≤ 1073741824 := by
  cases c <;> simp <;> omega
theorem mk_ok {a b : Int} (hb : 1 ≤ b) (h : mkBig a b = false) : SlOk (mkN a b) (mkD a b) := by
  unfold mkBig at h
  simp only [Bool.or_eq_false_iff, decide_eq_false_iff_not] at h
  have hd : 1 ≤ b.natAbs / Nat.gcd a.natAbs b.natAbs := by
    have hg : 0 < Nat.gcd a.natAbs b.natAbs := Nat.gcd_pos_of_pos_right _ (by omega)
    exact (Nat.one_le_div_iff hg).2 (Nat.gcd_le_right _ (by omega))
  have hn : -1073741824 ≤ mkN a b ∧ mkN a b ≤ 1073741824 := by
    unfold mkN
    exact ite_bd _ (by omega)
  exact ⟨hn.1, hn.2, by unfold mkD; omega, by unfold mkD; omega⟩
theorem chk_bd {t h : List Int} (hc : chkE t h = 0) : t.length = h.length ∧ 1 ≤ t.length ∧ t.length ≤ 1000 ∧ Bd t 86400000 ∧ Bd h 10800000 := by
  unfold chkE at hc
  by_cases c1 : t.length ≠ h.length ∨ t.length < 1 ∨ 1000 < t.length
  · rw [if_pos c1] at hc; cases hc
  · rw [if_neg c1] at hc
    by_cases c2 : outB t 86400000 = true ∨ outB h 10800000 = true
    · rw [if_pos c2] at hc; cases hc
    · have e1 : outB t 86400000 = false := by cases e : outB t 86400000; rfl; exact absurd (.inl e) c2
      have e2 : outB h 10800000 = false := by cases e : outB h 10800000; rfl; exact absurd (.inr e) c2
      exact ⟨by omega, by omega, by omega, outB_bd e1, outB_bd e2⟩
end Go.Proofs.YtmomoeagnkjbiaaGreat
/- average.Line. -/
namespace Go.Proofs.YtmomoeagnkjbiaaGreat
open Go.RowKit

theorem lnE_chk {t h : List Int} (hc : chkE t h ≠ 0) : lnE t h = chkE t h := if_pos hc
theorem ln_bad {t h : List Int} (hc : lnE t h ≠ 0) : lnN t h = 0 ∧ lnD t h = 0 ∧ lnK t h = 0 := ⟨if_neg hc, if_neg hc, if_neg hc⟩
theorem rp_pos {t h : List Int} {i k : Nat} (c : 0 < nth t i - nth t k) : rp t h i k = [mkR (nth h i - nth h k) (nth t i - nth t k)] := if_pos c
theorem rp_neg {t h : List Int} {i k : Nat} (c : nth t i - nth t k < 0) : rp t h i k = [mkR (nth h k - nth h i) (-(nth t i - nth t k))] := by
  unfold rp; rw [if_neg (by omega), if_pos c]
theorem rp_nil {t h : List Int} {i k : Nat} (c1 : ¬ 0 < nth t i - nth t k) (c2 : ¬ nth t i - nth t k < 0) : rp t h i k = [] := by
  unfold rp; rw [if_neg c1, if_neg c2]
/-- What Line answers, case by case. -/
theorem ln_cases (t h : List Int) (c0 : chkE t h = 0) :
    (risAll t h t.length = [] → lnN t h = 0 ∧ lnD t h = 0 ∧ lnK t h = 0 ∧ lnE t h = 12) ∧
    (∀ (l' : List RisB) (x : RisB), l'.Perm (risAll t h t.length) → l'.Pairwise (fun x y => risLe x.1 y.1 = true) → l'[((risAll t h t.length).length - 1) / 2]? = some x →
      ((mkBig (1000 * x.1.h) x.1.t = true ∨ slpB (mkN (1000 * x.1.h) x.1.t) (mkD (1000 * x.1.h) x.1.t) = false) → lnN t h = 0 ∧ lnD t h = 0 ∧ lnK t h = 0 ∧ lnE t h = 5) ∧
      (mkBig (1000 * x.1.h) x.1.t = false → slpB (mkN (1000 * x.1.h) x.1.t) (mkD (1000 * x.1.h) x.1.t) = true → lnN t h = mkN (1000 * x.1.h) x.1.t ∧ lnD t h = mkD (1000 * x.1.h) x.1.t ∧ lnK t h = medI (resK t h (mkN (1000 * x.1.h) x.1.t) (mkD (1000 * x.1.h) x.1.t) t.length) ∧ lnE t h = 0)) := by
  have hE : lnE t h = if risAll t h t.length = [] then 12
      else if mkBig (1000 * (lnP (risAll t h t.length)).h) (lnP (risAll t h t.length)).t = true ∨ slpB (mkN (1000 * (lnP (risAll t h t.length)).h) (lnP (risAll t h t.length)).t) (mkD (1000 * (lnP (risAll t h t.length)).h) (lnP (risAll t h t.length)).t) = false then 5 else 0 := if_neg (fun h => h c0)
  refine ⟨fun h0 => ?_, fun l' x hp hs hx => ?_⟩
  · have e : lnE t h = 12 := by rw [hE, if_pos h0]
    obtain ⟨n1, n2, n3⟩ := ln_bad (t := t) (h := h) (by rw [e]; decide)
    exact ⟨n1, n2, n3, e⟩
  · have hne : risAll t h t.length ≠ [] := by
      intro e
      rw [e] at hp
      rw [hp.eq_nil] at hx
      simp at hx
    obtain ⟨k1, k2, k3⟩ := lnP_any hp hs hx
    rw [if_neg hne, ← k1, ← k2, ← k3] at hE
    refine ⟨fun hc => ?_, fun c1 c2 => ?_⟩
    · have e : lnE t h = 5 := by rw [hE, if_pos hc]
      obtain ⟨n1, n2, n3⟩ := ln_bad (t := t) (h := h) (by rw [e]; decide)
      exact ⟨n1, n2, n3, e⟩
    · have e : lnE t h = 0 := by rw [hE, if_neg (by rw [c1, c2]; decide)]
      have a1 : lnN t h = mkN (1000 * x.1.h) x.1.t := by unfold lnN; rw [if_pos e, k1]
      have a2 : lnD t h = mkD (1000 * x.1.h) x.1.t := by unfold lnD; rw [if_pos e, k2]
      refine ⟨a1, a2, ?_, e⟩
      unfold lnK
      rw [if_pos e, a1, a2]
set_option maxHeartbeats 4000000 in
set_option maxRecDepth 100000 in
theorem av_Line (vt vh : Value) (t h : List Int) (w : World) (ht : Sl w vt t) (hh : Sl w vh h) :
    Calls Tryz.prog 17 #[vt, vh] w fun e w' => e = .returned (.tuple #[(.agg #[.int .i64 (lnN t h), .int .i64 (lnD t h)]), .int .i64 (lnK t h), .int .i64 (lnE t h)]) ∧ ∃ d, w' = bw w d := by
  have HC := Lib.hid (fun W (q1 : Sl W vt t) (q2 : Sl W vh h) => av_check vt vh t h W q1 q2)
  have HT := Lib.hid ht
  have HH := Lib.hid hh
  by_cases c0 : chkE t h = 0
  · obtain ⟨hl, h1, hn, bt, bh⟩ := chk_bd c0
    rw [c0] at HC
    have HB := Lib.hid (And.intro bt bh)
    have HLl := Lib.hid (risAll_len t h t.length)
    have HF := Lib.hid (ln_cases t h c0)
    have HAs := Lib.hid (fun i => show risAll t h (i + 1) = risAll t h i ++ risRow t h i i from rfl)
    obtain ⟨b, o, cap, rfl, hc, -, hbs, hr⟩ := ht.open (by omega)
    obtain ⟨b2, o2, cap2, rfl, hc2, -, hbs2, hr2⟩ := hh.open (by omega)
    have HRs := Lib.hid (fun W v1 v2 n d (q1 : Sl W v1 t) (q2 : Sl W v2 h) hs => av_residuals v1 v2 t h n d W q1 q2 hl h1 (by omega) (fun i hi => by have := bt i hi; omega) (fun i hi => by have := bh i hi; omega) hs)
    rw [← hl] at hr2 hc2 HH HC ⊢
    obtain ⟨m, hm⟩ : ∃ m, t.length = m := ⟨_, rfl⟩
    have hml : h.length = m := by omega
    have HM := Lib.hid (And.intro hm hml)
    rw [hm] at hr hr2 hc hc2 h1 hn HT HH HC HLl HRs HF ⊢
    obtain ⟨eN, hN⟩ : ∃ z, lnN t h = z := ⟨_, rfl⟩
    obtain ⟨eD, hD⟩ : ∃ z, lnD t h = z := ⟨_, rfl⟩
    obtain ⟨eK, hK⟩ : ∃ z, lnK t h = z := ⟨_, rfl⟩
    obtain ⟨eE, hE⟩ : ∃ z, lnE t h = z := ⟨_, rfl⟩
    rw [hN, hD, hK, hE] at HF ⊢
    have HTc := Lib.hid hr
    have HHc := Lib.hid hr2
    clear hr hr2 hm hl ht hh bt bh c0 hml hN hD hK hE
    refine lay_start ?_
    go_enter Tryz.func17, Tryz.ntmps17
    go_wp2_with (go_at_call 38; refine (HC.out _ (HT.out.lay _) (HH.out.lay _)).mono ?_; rintro e w' ⟨rfl, dA, rfl⟩)
    go_loopw [8, 24] (fun v8 v24 wr => ∃ (i : Nat) (dd : Ext), i ≤ m ∧ v24 = .int .i64 (i : Int) ∧ wr = lay w [.inr dd, .inl (.cells #[.int .i64 0, .int .i64 0] 26 (0, 0))] ∧ OwG riR (lay w [.inr dd, .inl (.cells #[.int .i64 0, .int .i64 0] 26 (0, 0))]) (lay w [.inl (.cells #[.int .i64 0, .int .i64 0] 26 (0, 0))]).heap.size v8 (risAll t h i)) (fun _ v24 _ => m - (intOf v24).toNat)
    case atStart => exact ⟨0, dA, Nat.zero_le _, rfl, rfl, OwG.nil _ _ _⟩
    case round =>
      obtain ⟨i, dd, hi, rfl, rfl, hO⟩ := hrel
      have HO := Lib.hid hO
      clear hO
      by_cases hlt : i < m
      · have x1 : (i : Int) < (m : Int) := by omega
        go_wp2_with fail
        go_loopw [8, 28] (fun v8 v28 wr => ∃ (k : Nat) (dd : Ext), k ≤ i ∧ v28 = .int .i64 (k : Int) ∧ wr = lay w [.inr dd, .inl (.cells #[.int .i64 0, .int .i64 0] 26 (0, 0))] ∧ OwG riR (lay w [.inr dd, .inl (.cells #[.int .i64 0, .int .i64 0] 26 (0, 0))]) (lay w [.inl (.cells #[.int .i64 0, .int .i64 0] 26 (0, 0))]).heap.size v8 (risAll t h i ++ risRow t h i k)) (fun _ v28 _ => i - (intOf v28).toNat)
        case atStart => exact ⟨0, dd, Nat.zero_le _, rfl, rfl, by rw [show risRow t h i 0 = [] from rfl, List.append_nil]; exact HO.out⟩
        case round =>
          obtain ⟨k, d2, hk, rfl, rfl, hO2⟩ := hrel
          have HO2 := Lib.hid hO2
          clear hO2
          by_cases hlt2 : k < i
          · have e1 := HTc.out i hlt
            have e2 := HTc.out k (by omega)
            have f1 := HHc.out i hlt
            have f2 := HHc.out k (by omega)
            have bd1 := HB.out.1 i (by rw [HM.out.1]; exact hlt)
            have bd2 := HB.out.1 k (by rw [HM.out.1]; omega)
            have bd3 := HB.out.2 i (by rw [HM.out.2]; exact hlt)
            have bd4 := HB.out.2 k (by rw [HM.out.2]; omega)
            have y0 : (0 : Int) ≤ (i : Int) := by omega
            have y1 : (0 : Int) ≤ (k : Int) := by omega
            have y2 : (k : Int) < (i : Int) := by omega
            have y3 : (k : Int) < (m : Int) := by omega
            have hlen : (risAll t h i ++ risRow t h i k).length ≤ 1000000000 := by
              rw [List.length_append]
              have l1 := risAll_len t h i
              have l2 := risRow_len t h i k
              have l3 : i * i ≤ 1000 * 1000 := Nat.mul_le_mul (by omega) (by omega)
              omega
            have HST := Lib.hid (show risAll t h i ++ risRow t h i (k + 1) = (risAll t h i ++ risRow t h i k) ++ rp t h i k by rw [List.append_assoc]; rfl)
            have HRP : Hid (rp t h i k = if 0 < nth t i - nth t k then [mkR (nth h i - nth h k) (nth t i - nth t k)] else if nth t i - nth t k < 0 then [mkR (nth h k - nth h i) (-(nth t i - nth t k))] else []) := Lib.hid rfl
            generalize rp t h i k = RP at *
            generalize risAll t h i ++ risRow t h i k = L at *
            generalize nth t i = ti at *
            generalize nth t k = tk at *
            generalize nth h i = hi' at *
            generalize nth h k = hk' at *
            have w1 : IntKind.i64.wrap (ti - tk) = ti - tk := IntWalk.i64_in _ (by omega)
            have w2 : IntKind.i64.wrap (hi' - hk') = hi' - hk' := IntWalk.i64_in _ (by omega)
            have w3 : IntKind.i64.wrap (hk' - hi') = hk' - hi' := IntWalk.i64_in _ (by omega)
            have w4 : IntKind.i64.wrap (-(ti - tk)) = -(ti - tk) := IntWalk.i64_in _ (by omega)
            obtain ⟨D, hD⟩ : ∃ D, ti - tk = D := ⟨_, rfl⟩
            rw [hD] at HRP w4
            have w1' : IntKind.i64.wrap (ti - tk) = D := w1.trans hD
            have hDb : -172800000 ≤ D ∧ D ≤ 172800000 := by omega
            clear w1 hD
            by_cases c1 : 0 < D
            · have c1' := decide_eq_true c1
              rw [if_pos c1] at HRP
              go_wp2_with fail
              refine region_bw (by kernel_rfl) (by kernel_rfl) ?_
              repeat (go_big_quiet_step ((first | fail)))
              refine wpQuiet_nil ?_
              rintro w' ⟨d, rfl⟩
              rw [lay_bw]
              obtain ⟨d3, e3⟩ : ∃ x, lay w [.inr d, .inr d2, .inl (.cells #[.int .i64 0, .int .i64 0] 26 (0, 0))] = lay w [.inr x, .inl (.cells #[.int .i64 0, .int .i64 0] 26 (0, 0))] := ⟨_, bw_bw _ _ _⟩
              have HO3 := Lib.hid (owG_on (A := [.inr d]) HO2.out)
              change Hid (OwG riR (lay w [.inr d, .inr d2, .inl (.cells #[.int .i64 0, .int .i64 0] 26 (0, 0))]) _ _ L) at HO3
              rw [e3] at HO3 ⊢
              clear e3
              go_wp2_with fail
              refine region_mixT 13 [0, 0, 0, 0, 0, 0, 0, 0, 0, 0, 0, 0, 1] (by kernel_rfl) (by kernel_rfl) (by kernel_rfl) (by kernel_rfl) (by simp) (by kernel_rfl) ?_
              simp only [List.take_succ_cons, List.take_zero, List.drop_succ_cons, List.drop_zero]
              repeat (first | (refine wpM_quiet (fun K hK => ?_); go_simp; first | (refine hK _ ?_; clear hK K) | (apply Exists.intro; refine ⟨fun _ => ?_, hK _ ?_⟩; (first | fail); clear hK K)) | (refine wpM_special (fun K hK d => ?_); go_simp; refine hK _ _ (by first | exact lay_in w [_] _ | exact lay_in w [_, _] _ | exact lay_in w [_, _, _] _ | exact lay_in w [_, _, _, _] _ | exact lay_in w [_, _, _, _, _] _ | exact lay_in w [_, _, _, _, _, _] _) ?_; clear hK K))
              refine wpM_nil ?_
              intro d1
              rw [lay_bw]
              refine push_rec riOk rfl _ _ rfl (lay w [.inl (.cells #[.int .i64 0, .int .i64 0] 26 (0, 0))]) _ (mkR (hi' - hk') (D)) #[.int .i64 (hi' - hk'), .int .i64 (D)] 83 _ _ L ?_ (owG_on (A := [_, _, _]) HO3.out) ?_ (by show [_, _] = [Value.int .i64 (mkR _ _).1.h, Value.int .i64 (mkR _ _).1.t]; rw [mkR_h (by omega)]) rfl rfl hlen trivial ?_
              · exact lay_belowG (A := [_, _, _, _])
              · exact lay_get w _ 1 _ rfl
              intro v' d' hv'
              have HV := Lib.hid hv'
              clear hv'
              go_wp2_with fail
              go_roundw
              case rel => exact ⟨k + 1, d', hlt2, by go_num, rfl, by rw [HST.out, HRP.out]; exact HV.out⟩
              case measure => simp [intOf]; omega
            · have c1' := decide_eq_false c1
              rw [if_neg c1] at HRP
              by_cases c2 : D < 0
              · have c2' := decide_eq_true c2
                rw [if_pos c2] at HRP
                go_wp2_with fail
                refine region_bw (by kernel_rfl) (by kernel_rfl) ?_
                repeat (go_big_quiet_step ((first | fail)))
                refine wpQuiet_nil ?_
                rintro w' ⟨d, rfl⟩
                rw [lay_bw]
                obtain ⟨d3, e3⟩ : ∃ x, lay w [.inr d, .inr d2, .inl (.cells #[.int .i64 0, .int .i64 0] 26 (0, 0))] = lay w [.inr x, .inl (.cells #[.int .i64 0, .int .i64 0] 26 (0, 0))] := ⟨_, bw_bw _ _ _⟩
                have HO3 := Lib.hid (owG_on (A := [.inr d]) HO2.out)
                change Hid (OwG riR (lay w [.inr d, .inr d2, .inl (.cells #[.int .i64 0, .int .i64 0] 26 (0, 0))]) _ _ L) at HO3
                rw [e3] at HO3 ⊢
                clear e3
                go_wp2_with fail
                refine region_mixT 14 [0, 0, 0, 0, 0, 0, 0, 0, 0, 0, 0, 0, 0, 1] (by kernel_rfl) (by kernel_rfl) (by kernel_rfl) (by kernel_rfl) (by simp) (by kernel_rfl) ?_
                simp only [List.take_succ_cons, List.take_zero, List.drop_succ_cons, List.drop_zero]
                repeat (first | (refine wpM_quiet (fun K hK => ?_); go_simp; first | (refine hK _ ?_; clear hK K) | (apply Exists.intro; refine ⟨fun _ => ?_, hK _ ?_⟩; (first | fail); clear hK K)) | (refine wpM_special (fun K hK d => ?_); go_simp; refine hK _ _ (by first | exact lay_in w [_] _ | exact lay_in w [_, _] _ | exact lay_in w [_, _, _] _ | exact lay_in w [_, _, _, _] _ | exact lay_in w [_, _, _, _, _] _ | exact lay_in w [_, _, _, _, _, _] _) ?_; clear hK K))
                refine wpM_nil ?_
                intro d1
                rw [lay_bw]
                refine push_rec riOk rfl _ _ rfl (lay w [.inl (.cells #[.int .i64 0, .int .i64 0] 26 (0, 0))]) _ (mkR (hk' - hi') (-D)) #[.int .i64 (hk' - hi'), .int .i64 (-D)] 83 _ _ L ?_ (owG_on (A := [_, _, _]) HO3.out) ?_ (by show [_, _] = [Value.int .i64 (mkR _ _).1.h, Value.int .i64 (mkR _ _).1.t]; rw [mkR_h (by omega)]) rfl rfl hlen trivial ?_
                · exact lay_belowG (A := [_, _, _, _])
                · exact lay_get w _ 1 _ rfl
                intro v' d' hv'
                have HV := Lib.hid hv'
                clear hv'
                go_wp2_with fail
                go_roundw
                case rel => exact ⟨k + 1, d', hlt2, by go_num, rfl, by rw [HST.out, HRP.out]; exact HV.out⟩
                case measure => simp [intOf]; omega
              · have c2' := decide_eq_false c2
                rw [if_neg c2] at HRP
                go_wp2_with fail
                refine region_bw (by kernel_rfl) (by kernel_rfl) ?_
                repeat (go_big_quiet_step ((first | fail)))
                refine wpQuiet_nil ?_
                rintro w' ⟨d, rfl⟩
                rw [lay_bw]
                obtain ⟨d3, e3⟩ : ∃ x, lay w [.inr d, .inr d2, .inl (.cells #[.int .i64 0, .int .i64 0] 26 (0, 0))] = lay w [.inr x, .inl (.cells #[.int .i64 0, .int .i64 0] 26 (0, 0))] := ⟨_, bw_bw _ _ _⟩
                have HO3 := Lib.hid (owG_on (A := [.inr d]) HO2.out)
                change Hid (OwG riR (lay w [.inr d, .inr d2, .inl (.cells #[.int .i64 0, .int .i64 0] 26 (0, 0))]) _ _ L) at HO3
                rw [e3] at HO3 ⊢
                clear e3
                go_wp2_with fail
                go_roundw
                case rel => exact ⟨k + 1, d3, hlt2, by go_num, rfl, by rw [HST.out, HRP.out, List.append_nil]; exact HO3.out⟩
                case measure => simp [intOf]; omega
          · obtain rfl : k = i := by omega
            have HST := HAs.out k
            rw [← HST] at HO2
            clear HST
            have x3 : ¬ (k : Int) < (k : Int) := by omega
            go_wp2_with fail
            go_roundw
            case rel => exact ⟨k + 1, d2, by omega, by go_num, rfl, HO2.out⟩
            case measure => simp [intOf]; omega
      · obtain rfl : i = m := by omega
        have x2 : ¬ (i : Int) < (i : Int) := by omega
        have hb : i * i ≤ 1000 * 1000 := Nat.mul_le_mul hn hn
        obtain ⟨q, hq⟩ : ∃ q, (risAll t h i).length = q := ⟨_, rfl⟩
        have hqb : q ≤ 1000000 := by rw [← hq]; have := HLl.out; omega
        rw [hq] at HF
        have HQ := Lib.hid hq
        clear HAs HB HTc HHc hb HLl
        by_cases hq0 : q = 0
        · subst hq0
          obtain ⟨a, cp, hv8⟩ := HO.out.form
          rw [HQ.out] at hv8
          subst hv8
          obtain ⟨r1, r2, r3, r4⟩ := HF.out.1 (List.eq_nil_of_length_eq_zero HQ.out)
          subst r1 r2 r3 r4
          go_wp2_with fail
          exact bodyPost_ret (v := .tuple #[(.agg #[.int .i64 (0), .int .i64 (0)]), .int .i64 0, .int .i64 12]) (by simp [results, Tryz.results17, go_sem]) rfl ⟨rfl, lay_ex _ _⟩
        · obtain ⟨g, cp, hv8, hg1, hg2, hg3⟩ := HO.out.form1 (by rw [HQ.out]; omega)
          rw [HQ.out] at hv8 hg3
          subst hv8
          have HSo := Lib.hid (av_sort _ _ _ _ (lay_belowG (A := [.inr dd]) (B := [.inl (.cells #[.int .i64 0, .int .i64 0] 26 (0, 0))])) HO.out (by rw [HQ.out]; omega) (by rw [HQ.out]; omega))
          change Hid (Calls _ _ _ (lay w [.inr dd, .inl (.cells #[.int .i64 0, .int .i64 0] 26 (0, 0))]) _) at HSo
          have z1 : ((q : Int) == 0) = false := beq_eq_false_iff_ne.2 (by omega)
          obtain ⟨lo, hlo⟩ : ∃ lo, (q - 1) / 2 = lo := ⟨_, rfl⟩
          have HLw := Lib.hid (fun W => av_lower q W (by omega) hqb)
          rw [hlo] at HLw HF
          have hlq : lo < q := by omega
          clear HO hlo
          go_wp2_with (go_at_call 39; refine HSo.out.mono ?_; rintro e w' ⟨rfl, d2, L', rfl, hp, hs, hO2⟩)
          obtain ⟨x, hx⟩ : ∃ x, L'[lo]? = some x := ⟨_, List.getElem?_eq_getElem (by rw [hp.length_eq, HQ.out]; exact hlq)⟩
          have HC2 := Lib.hid (HF.out.2 L' x hp hs hx)
          change OwG riR (lay w [.inr d2, .inl (.cells #[.int .i64 0, .int .i64 0] 26 (0, 0))]) _ _ _ at hO2
          have g1 := fun d' => (owG_on (A := [.inr d']) hO2).cell riOk hx (j := 0) rfl
          have g2 := fun d' => (owG_on (A := [.inr d']) hO2).cell riOk hx (j := 1) rfl
          have hxb := x.2
          obtain ⟨xh, hxh⟩ : ∃ xh, x.1.h = xh := ⟨_, rfl⟩
          obtain ⟨xt, hxt⟩ : ∃ xt, x.1.t = xt := ⟨_, rfl⟩
          rw [hxh, hxt] at HC2 hxb
          have g1' : ∀ d', (lay w [.inr d', .inr d2, .inl (.cells #[.int .i64 0, .int .i64 0] 26 (0, 0))]).cell? ⟨g, lo * 2, none⟩ = some (.int .i64 xh) := fun d' => by rw [← hxh]; exact g1 d'
          have g2' : ∀ d', (lay w [.inr d', .inr d2, .inl (.cells #[.int .i64 0, .int .i64 0] 26 (0, 0))]).cell? ⟨g, lo * 2 + 1, none⟩ = some (.int .i64 xt) := fun d' => by rw [← hxt]; exact g2 d'
          have HMk := Lib.hid (fun W => rt_Make (1000 * xh) xt W (by omega) (by omega))
          have eMk : mkE (1000 * xh) xt = if mkBig (1000 * xh) xt = true then 5 else 0 := if_neg (by omega)
          have u1 : IntKind.i64.wrap (1000 * xh) = 1000 * xh := IntWalk.i64_in _ (by omega)
          have u2 : (0 : Int) ≤ (lo : Int) := by omega
          have u3 : (lo : Int) < (q : Int) := by omega
          have hxt1 : 1 ≤ xt := by omega
          clear hp hs hx hxb hxh hxt g1 g2 hO2 HSo HF
          refine (HLw.out _).mono ?_
          rintro e w' ⟨rfl, d3, rfl⟩
          rw [lay_bw]
          cases hbig : mkBig (1000 * xh) xt
          · have HOk := Lib.hid (mk_ok hxt1 hbig)
            rw [hbig, if_neg (by decide)] at eMk
            unfold mkNN mkDD at HMk
            rw [eMk, if_pos rfl, if_pos rfl] at HMk
            have HSl := Lib.hid (fun W => av_slopes _ _ W HOk.out)
            have HC3 := Lib.hid (HC2.out.2 hbig)
            have HC4 := Lib.hid (fun hh => HC2.out.1 (.inr hh))
            clear hbig eMk HC2
            generalize mkN (1000 * xh) xt = N at *
            generalize mkD (1000 * xh) xt = Dn at *
            cases hsl : slpB N Dn
            · rw [hsl] at HSl
              obtain ⟨r1, r2, r3, r4⟩ := HC4.out hsl
              subst r1 r2 r3 r4
              clear hsl HC3 HC4
              go_wp2_with (first | (go_at_call 32; refine (HMk.out _).mono ?_; rintro e w' ⟨rfl, d4, rfl⟩) | (go_at_call 42; refine (HSl.out _).mono ?_; rintro e w' ⟨rfl, d5, rfl⟩))
              exact bodyPost_ret (v := .tuple #[(.agg #[.int .i64 (0), .int .i64 (0)]), .int .i64 0, .int .i64 5]) (by simp [results, Tryz.results17, go_sem]) rfl ⟨rfl, lay_ex _ _⟩
            · rw [hsl] at HSl
              obtain ⟨r1, r2, r3, r4⟩ := HC3.out hsl
              subst r1 r2 r4
              clear hsl HC3 HC4
              go_wp2_with (first | (go_at_call 32; refine (HMk.out _).mono ?_; rintro e w' ⟨rfl, d4, rfl⟩) | (go_at_call 42; refine (HSl.out _).mono ?_; rintro e w' ⟨rfl, d5, rfl⟩))
              have HMd := Lib.hid (fun v W q => av_median v (resK t h eN eD i) W q (by rw [resK_len]; exact h1) (by rw [resK_len]; omega))
              rw [← r3] at HMd
              clear r3
              refine region_mixS 6 [(0, 0), (1, 2), (2, 2), (3, 1), (4, 1), (5, 1), (6, 3), (7, 2), (8, 2)] (by kernel_rfl) (by kernel_rfl) (by kernel_rfl) rfl ?_
              repeat (first | (refine wpMS_pure rfl (fun K hK => ?_); go_simp; refine hK _ ?_; clear hK K) | (refine wpMS_quiet rfl (fun K hK => ?_); go_simp; first | (refine hK _ ?_; clear hK K) | (apply Exists.intro; refine ⟨fun _ => ?_, hK _ ?_⟩; (first | fail); clear hK K)))
              refine wpMS_special rfl (fun K hK e1 => ?_)
              go_simp
              refine hK _ _ ⟨_, rfl⟩ ?_
              clear hK K
              refine wpMS_special rfl (fun K hK e2 => ?_)
              go_simp
              refine (HRs.out _ _ _ _ _ (HT.out.lay _) (HH.out.lay _) HOk.out).mono ?_
              rintro e w' ⟨v, d6, rfl, rfl, hv⟩
              refine ⟨_, rfl, ?_⟩
              rw [lay_bw] at hv ⊢
              have HV := Lib.hid (fun e3 => hv.sl.bw e3)
              clear hv
              refine hK _ _ (lay_in w [_, _, _] _) ?_
              clear hK K
              refine wpMS_special rfl (fun K hK e3 => ?_)
              rw [lay_bw]
              go_simp
              refine (HMd.out v _ (HV.out e3)).mono ?_
              rintro e w' ⟨rfl, d7, rfl⟩
              refine ⟨_, rfl, ?_⟩
              rw [lay_bw, lay_bw]
              refine hK _ _ (lay_in w [_, _, _, _, _] _) ?_
              clear hK K
              refine wpMS_store rfl (fun K hK e4 => ?_)
              rw [lay_bw]
              go_simp
              refine hK _ _ ?_
              clear hK K
              repeat (first | (refine wpMS_pure rfl (fun K hK => ?_); go_simp; refine hK _ ?_; clear hK K) | (refine wpMS_quiet rfl (fun K hK => ?_); go_simp; first | (refine hK _ ?_; clear hK K) | (apply Exists.intro; refine ⟨fun _ => ?_, hK _ ?_⟩; (first | fail); clear hK K)))
              refine wpMS_nil ?_
              intro d9
              rw [lay_bw]
              go_wp2_with fail
              exact bodyPost_ret (v := .tuple #[(.agg #[.int .i64 (eN), .int .i64 (eD)]), .int .i64 eK, .int .i64 0]) (by simp [results, Tryz.results17, go_sem]) rfl ⟨rfl, lay_ex _ _⟩
          · rw [hbig, if_pos rfl] at eMk
            unfold mkNN mkDD at HMk
            rw [eMk, if_neg (by decide), if_neg (by decide)] at HMk
            obtain ⟨r1, r2, r3, r4⟩ := HC2.out.1 (.inl hbig)
            subst r1 r2 r3 r4
            clear HC2 hbig eMk
            go_wp2_with (go_at_call 32; refine (HMk.out _).mono ?_; rintro e w' ⟨rfl, d4, rfl⟩)
            exact bodyPost_ret (v := .tuple #[(.agg #[.int .i64 (0), .int .i64 (0)]), .int .i64 0, .int .i64 5]) (by simp [results, Tryz.results17, go_sem]) rfl ⟨rfl, lay_ex _ _⟩
  · have hE := lnE_chk c0
    obtain ⟨n1, n2, n3⟩ := ln_bad (t := t) (h := h) (by rw [hE]; exact c0)
    rw [n1, n2, n3, hE]
    obtain ⟨a1, c1, rfl, -⟩ := ht
    obtain ⟨a2, c2, rfl, -⟩ := hh
    have t1 : (chkE t h == 0) = false := beq_eq_false_iff_ne.2 c0
    have t2 : (chkE t h != 0) = true := by rw [bne, t1]; rfl
    clear hE n1 n2 n3
    generalize chkE t h = E at *
    refine lay_start ?_
    go_enter Tryz.func17, Tryz.ntmps17
    go_wp2_with (go_at_call 38; refine (HC.out _ (HT.out.lay _) (HH.out.lay _)).mono ?_; rintro e w' ⟨rfl, dA, rfl⟩)
    exact bodyPost_ret (v := .tuple #[(.agg #[.int .i64 (0), .int .i64 (0)]), .int .i64 0, .int .i64 E]) (by simp [results, Tryz.results17, go_sem]) rfl ⟨rfl, lay_ex _ _⟩
end Go.Proofs.YtmomoeagnkjbiaaGreat

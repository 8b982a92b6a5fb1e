/- Contracts and plain laws, several texts in one: Sg2; SgA; AvS; Sg3 -/
import Derived.Test.YtejmgdpgngjiiaaGreatProg
import Derived.WalkKit
import Derived.WalkSpells
import Derived.WalkLawsBesides
import Derived.Lib.Hide
import Derived.BigQuiet
import Derived.Deep.Slices
import Derived.Deep.Fields
import Derived.ChangeSame
import Derived.WideShapes
import Derived.ChangeShapes
import Derived.Lib.SmallJoins
import Derived.Test.YtejmgdpgngjiiaaGreatBAA
import Derived.Test.YtejmgdpgngjiiaaGreatBAB
import Derived.Test.YtejmgdpgngjiiaaGreatBAC
import Derived.Test.YtejmgdpgngjiiaaGreatBAD
import Derived.Test.YtejmgdpgngjiiaaGreatBAE
import Derived.Test.YtejmgdpgngjiiaaGreatBAF
import Derived.Test.YtejmgdpgngjiiaaGreatBAP
import Derived.Test.YtejmgdpgngjiiaaGreatBAR
/- Rows of sights; slices.IndexFunc and ContainsFunc over sights, for whatever closure; middle, like. -/
namespace Go.Proofs.YtejmgdpgngjiiaaGreat
open Go.RowKit

def idxR {α : Type} (p : α → Bool) : List α → Nat → Int
  | [], _ => -1
  | x :: l, k => if p x then (k : Int) else idxR p l (k + 1)
theorem idxR_bd {α : Type} (p : α → Bool) : ∀ (l : List α) (k : Nat), idxR p l k = -1 ∨ ((k : Int) ≤ idxR p l k ∧ idxR p l k < (k : Int) + l.length)
  | [], _ => .inl rfl
  | x :: l, k => by
    unfold idxR
    split
    · right; simp only [List.length_cons]; omega
    · rcases idxR_bd p l (k + 1) with h | h
      · exact .inl h
      · right; simp only [List.length_cons]; omega
theorem idxR_any {α : Type} (p : α → Bool) : ∀ (l : List α) (k : Nat), decide (0 ≤ idxR p l k) = l.any p
  | [], _ => rfl
  | x :: l, k => by
    unfold idxR
    rw [List.any_cons, ← idxR_any p l (k + 1)]
    cases p x
    · simp
    · simp
theorem idxR_miss {α : Type} {p : α → Bool} {l : List α} {k : Nat} {x : α} (hx : l[k]? = some x) (h : p x = false) (e : idxR p l 0 = idxR p (l.drop k) k) : idxR p l 0 = idxR p (l.drop (k + 1)) (k + 1) := by
  obtain ⟨hk, rfl⟩ := List.getElem?_eq_some_iff.1 hx
  rw [e, List.drop_eq_getElem_cons hk]
  show (if p l[k] then (k : Int) else _) = _
  rw [h]; rfl
theorem idxR_got {α : Type} {p : α → Bool} {l : List α} {k : Nat} {x : α} (hx : l[k]? = some x) (h : p x = true) (e : idxR p l 0 = idxR p (l.drop k) k) : (k : Int) = idxR p l 0 := by
  obtain ⟨hk, rfl⟩ := List.getElem?_eq_some_iff.1 hx
  rw [e, List.drop_eq_getElem_cons hk]
  show _ = (if p l[k] then (k : Int) else _)
  rw [h]; rfl
theorem idxR_end {α : Type} {p : α → Bool} {l : List α} {k : Nat} (hk : l.length ≤ k) (e : idxR p l 0 = idxR p (l.drop k) k) : (-1 : Int) = idxR p l 0 := by
  rw [e, List.drop_of_length_le hk]; rfl


def sgR : RecT SgV := { E := 68, S := 64, k := 11, bytes := 96, enc := SgV.cells, wf := SgOk }
theorem info_sg : (Tryz.prog.info? 68).map (fun i => (i.zero.map (fun z => z.cells.size), i.size, i.bytes)) = some (some 11, 11, 96) := by kernel_rfl
theorem sgROk : RecOk sgR where
  len _ := rfl
  one x u hu := by
    unfold sgR SgV.cells at hu
    simp only [List.mem_cons, List.not_mem_nil, or_false] at hu
    rcases hu with rfl | rfl | rfl | rfl | rfl | rfl | rfl | rfl | rfl | rfl | rfl <;> rfl
  pos := by decide
  und := Tryz.underlying64
  info := by
    have h := info_sg
    cases hi : Tryz.prog.info? 68 with
    | none => rw [hi] at h; cases h
    | some i =>
      rw [hi] at h
      simp only [Option.map_some, Option.some.injEq, Prod.mk.injEq] at h
      obtain ⟨h1, h2, h3⟩ := h
      cases hz : i.zero with
      | none => rw [hz] at h1; cases h1
      | some z =>
        rw [hz] at h1
        simp only [Option.map_some, Option.some.injEq] at h1
        exact ⟨i, z, hi, hz, h2, h3, h1⟩
  small := by decide
set_option maxHeartbeats 1000000 in
theorem sg_IndexFunc (g : FuncId) (lb : List Value) (p : SgV → Bool) (v : Value) (l : List SgV) (w : World) (hv : SlG sgR w v l)
    (eI : ∀ args w, (callFunc g args).run Tryz.prog w = .ok (.enter g args) w)
    (hf : ∀ x ∈ l, ∀ d, Calls Tryz.prog g (.agg (sgR.enc x).toArray :: lb).toArray (bw w d) fun e w' => e = .returned (.bool (p x)) ∧ ∃ d, w' = bw w d) :
    Calls Tryz.prog 114 #[v, .func (.func g) #[] lb.toArray] w (IdxPost w (idxR p l 0)) := by
  by_cases hz : l = []
  · subst hz
    obtain ⟨a, cap, rfl⟩ := hv.form
    clear hf
    refine lay_start ?_
    go_enter Tryz.func114, Tryz.ntmps114
    go_wp2_with fail
    refine wp_loop_rounds 1 ?_
    rw [rounds_succ]
    go_wp2
    go_ret
    exact ⟨rfl, lay_ex _ _⟩
  · obtain ⟨b, o, cap, rfl, hc, hb, hr⟩ := hv.open (List.length_pos_iff.2 hz)
    obtain ⟨m, hm⟩ : ∃ m, l.length = m := ⟨_, rfl⟩
    have HF := Lib.hid hf
    have HM := Lib.hid hm
    rw [hm] at hc ⊢
    have HR : Hid (∀ i x, l[i]? = some x → w.cell? ⟨b, o + i * 11, none⟩ = some (.string x.body) ∧ w.cell? ⟨b, o + i * 11 + 1, none⟩ = some (.int .i64 x.limb) ∧ w.cell? ⟨b, o + i * 11 + 2, none⟩ = some (.int .i64 x.lo) ∧ w.cell? ⟨b, o + i * 11 + 3, none⟩ = some (.int .i64 x.hi) ∧ w.cell? ⟨b, o + i * 11 + 4, none⟩ = some (.int .i64 x.hs) ∧ w.cell? ⟨b, o + i * 11 + 5, none⟩ = some (.int .i64 x.wi) ∧ w.cell? ⟨b, o + i * 11 + 6, none⟩ = some (.int .i64 x.hz) ∧ w.cell? ⟨b, o + i * 11 + 7, none⟩ = some (.int .i64 x.ey) ∧ w.cell? ⟨b, o + i * 11 + 8, none⟩ = some (.int .i64 x.sh) ∧ w.cell? ⟨b, o + i * 11 + 9, none⟩ = some (.int .i64 x.te) ∧ w.cell? ⟨b, o + i * 11 + 10, none⟩ = some (.int .i64 x.pr)) :=
      Lib.hid (fun i x hx => ⟨hr i x hx 0 _ rfl, hr i x hx 1 _ rfl, hr i x hx 2 _ rfl, hr i x hx 3 _ rfl, hr i x hx 4 _ rfl, hr i x hx 5 _ rfl, hr i x hx 6 _ rfl, hr i x hx 7 _ rfl, hr i x hx 8 _ rfl, hr i x hx 9 _ rfl, hr i x hx 10 _ rfl⟩)
    clear hf hz hm hr hv
    refine lay_start ?_
    go_enter Tryz.func114, Tryz.ntmps114
    go_wp2_with fail
    go_loopw [8] (fun i wr => ∃ (k : Nat) (d : Ext), k ≤ m ∧ i = .int .i64 k ∧ wr = lay w [.inr d] ∧ idxR p l 0 = idxR p (l.drop k) k) (fun i _ => m - (intOf i).toNat)
    case atStart => exact ⟨0, noExt _, Nat.zero_le _, rfl, (bw_noExt _).symm, rfl⟩
    case round =>
      obtain ⟨k, d, hk, rfl, rfl, hA⟩ := hrel
      have HA := Lib.hid hA
      clear hA
      by_cases hlt : k < m
      · obtain ⟨x, hx⟩ : ∃ x, l[k]? = some x := ⟨_, List.getElem?_eq_getElem (by rw [HM.out]; exact hlt)⟩
        obtain ⟨e0, e1, e2, e3, e4, e5, e6, e7, e8, e9, e10⟩ := HR.out k x hx
        have H1 : Hid (Calls Tryz.prog g (.agg #[.string x.body, .int .i64 x.limb, .int .i64 x.lo, .int .i64 x.hi, .int .i64 x.hs, .int .i64 x.wi, .int .i64 x.hz, .int .i64 x.ey, .int .i64 x.sh, .int .i64 x.te, .int .i64 x.pr] :: lb).toArray (lay w [.inr d]) fun e w' => e = .returned (.bool (p x)) ∧ ∃ d, w' = bw w d) := Lib.hid (HF.out x (List.mem_of_getElem? hx) d)
        cases ho : p x
        · have HN := Lib.hid (idxR_miss hx ho HA.out)
          rw [ho] at H1
          clear ho hx
          obtain ⟨y0, y1, y2, y3, y4, y5, y6, y7, y8, y9, y10⟩ := x
          dsimp only at e0 e1 e2 e3 e4 e5 e6 e7 e8 e9 e10 H1
          go_wp2_with (refine H1.out.mono ?_; rintro e w' ⟨rfl, d1, rfl⟩)
          go_roundw
          case rel => exact ⟨k + 1, d1, by omega, by go_num, rfl, HN.out⟩
          case measure => simp [intOf]; omega
        · have HN := Lib.hid (idxR_got hx ho HA.out)
          rw [ho] at H1
          clear ho hx
          obtain ⟨y0, y1, y2, y3, y4, y5, y6, y7, y8, y9, y10⟩ := x
          dsimp only at e0 e1 e2 e3 e4 e5 e6 e7 e8 e9 e10 H1
          go_wp2_with (refine H1.out.mono ?_; rintro e w' ⟨rfl, d1, rfl⟩)
          go_ret
          exact ⟨ret_int HN.out, d1, rfl⟩
      · have HN := Lib.hid (idxR_end (k := k) (by rw [HM.out]; omega) HA.out)
        go_wp2
        go_ret
        exact ⟨ret_int HN.out, lay_ex _ _⟩
set_option maxHeartbeats 1000000 in
theorem sg_ContainsFunc (g : FuncId) (lb : List Value) (p : SgV → Bool) (v : Value) (l : List SgV) (w : World) (hv : SlG sgR w v l)
    (eI : ∀ args w, (callFunc g args).run Tryz.prog w = .ok (.enter g args) w)
    (hf : ∀ x ∈ l, ∀ d, Calls Tryz.prog g (.agg (sgR.enc x).toArray :: lb).toArray (bw w d) fun e w' => e = .returned (.bool (p x)) ∧ ∃ d, w' = bw w d) :
    Calls Tryz.prog 68 #[v, .func (.func g) #[] lb.toArray] w fun e w' => e = .returned (.bool (l.any p)) ∧ ∃ d, w' = bw w d := by
  have H := Lib.hid (sg_IndexFunc g lb p v l w hv eI hf)
  have HS := Lib.hid (idxR_any p l 0)
  generalize idxR p l 0 = x at *
  generalize l.any p = y at *
  clear hf eI hv
  refine lay_start ?_
  go_enter Tryz.func68, Tryz.ntmps68
  go_wp2_with (go_at_call 114; refine H.out.mono ?_; rintro e w' ⟨rfl, d, rfl⟩)
  go_ret
  exact ⟨ret_bool HS.out, _, rfl⟩
/-- The middle of a sight's time. -/
def midI (s : SgV) : Int := (s.lo + s.hi) / 2
/-- Bounds of a time. -/
structure SgT (s : SgV) : Prop where
  lo : -70368744177664 ≤ s.lo
  le : s.lo ≤ s.hi
  hi : s.hi ≤ 70368744177664
theorem SgT.mid {s : SgV} (h : SgT s) : -70368744177664 ≤ midI s ∧ midI s ≤ 70368744177664 ∧ s.lo ≤ midI s ∧ midI s ≤ s.hi := by
  have h1 := h.lo; have h2 := h.le; have h3 := h.hi
  unfold midI; omega
set_option maxHeartbeats 400000 in
set_option maxRecDepth 100000 in
theorem av_middle (s : SgV) (w : World) (h : SgT s) :
    Calls Tryz.prog 71 #[s.val] w fun e w' => e = .returned (.int .i64 (midI s)) ∧ ∃ d, w' = bw w d := by
  have h1 := h.lo; have h2 := h.le; have h3 := h.hi
  have k1 : IntKind.i64.wrap (s.lo + s.hi) = s.lo + s.hi := IntWalk.i64_in _ (by omega)
  have HF := Lib.hid (fun W => av_floor (s.lo + s.hi) 2 W (by decide) (by omega) (by omega))
  rw [sg_val]
  unfold midI
  generalize (s.lo + s.hi) / 2 = m at *
  clear h h1 h2 h3
  obtain ⟨body, limb, lo, hi, hs, wi, hz, ey, sh, te, pr⟩ := s
  dsimp only at *
  refine lay_start ?_
  go_enter Tryz.func71, Tryz.ntmps71
  go_wp2_with (go_at_call 72; refine (HF.out _).mono ?_; rintro e w' ⟨rfl, rfl⟩)
  go_ret
  exact ⟨rfl, lay_ex _ _⟩
/-- Sights of one kind. -/
structure Like (a b : SgV) : Prop where
  body : a.body.toList = b.body.toList
  limb : a.limb = b.limb
  hz : a.hz = b.hz
  ey : a.ey = b.ey
  sh : a.sh = b.sh
  te : a.te = b.te
  pr : a.pr = b.pr
instance (a b : SgV) : Decidable (Like a b) := decidable_of_iff (a.body.toList = b.body.toList ∧ a.limb = b.limb ∧ a.hz = b.hz ∧ a.ey = b.ey ∧ a.sh = b.sh ∧ a.te = b.te ∧ a.pr = b.pr)
  ⟨fun ⟨h1, h2, h3, h4, h5, h6, h7⟩ => ⟨h1, h2, h3, h4, h5, h6, h7⟩, fun ⟨h1, h2, h3, h4, h5, h6, h7⟩ => ⟨h1, h2, h3, h4, h5, h6, h7⟩⟩
def likB (a b : SgV) : Bool := decide (Like a b)
set_option maxHeartbeats 1000000 in
set_option maxRecDepth 100000 in
theorem av_like (a b : SgV) (w : World) :
    Calls Tryz.prog 117 #[a.val, b.val] w fun e w' => e = .returned (.bool (likB a b)) ∧ ∃ d, w' = bw w d := by
  obtain ⟨r, hr⟩ : ∃ r, likB a b = r := ⟨_, rfl⟩
  rw [hr, sg_val, sg_val]
  have HR := Lib.hid hr
  have HY : Hid (Like a b → r = true) := Lib.hid fun h => by rw [← HR.out]; exact decide_eq_true h
  have HN : Hid (¬ Like a b → r = false) := Lib.hid fun h => by rw [← HR.out]; exact decide_eq_false h
  clear hr
  refine lay_start ?_
  go_enter Tryz.func117, Tryz.ntmps117
  go_wp2_with fail
  go_region
  go_wp2_with fail
  all_goals go_ret
  all_goals refine ⟨?_, by rw [bw_drewExt, lay_bw]; exact lay_ex _ _⟩
  all_goals first
    | (rw [HY.out ⟨by assumption, by assumption, by assumption, by assumption, by assumption, by assumption, by assumption⟩]; rfl)
    | (rw [HN.out (fun h => absurd h.body (by assumption))]; rfl)
    | (rw [HN.out (fun h => absurd h.limb (by assumption))]; rfl)
    | (rw [HN.out (fun h => absurd h.hz (by assumption))]; rfl)
    | (rw [HN.out (fun h => absurd h.ey (by assumption))]; rfl)
    | (rw [HN.out (fun h => absurd h.sh (by assumption))]; rfl)
    | (rw [HN.out (fun h => absurd h.te (by assumption))]; rfl)
    | (rw [HN.out (fun h => absurd h.pr (by assumption))]; rfl)
end Go.Proofs.YtejmgdpgngjiiaaGreat
/- Opening a sight and a fraction off an argument. -/
namespace Go.Proofs.YtejmgdpgngjiiaaGreat
open Go.RowKit

theorem lit_k64 {n : Int} (h : (Lit.int .i64 n).wf = true) : i64B n := by
  simp [Lit.wf, IntKind.min, IntKind.max, IntKind.signed, IntKind.bits] at h
  unfold i64B
  omega
section
variable {H : Type} {enc : TypeId × Value → H} {P : Program}
open Go.ChangeShapes Go.WideShapes Go.Deep in
theorem sg_elem {w : World} {t ts ti td : TypeId} {f0 f1 f2 f3 f4 f5 f6 f7 f8 f9 g0 g1 : Field} (hs : P.underlying t = some (.struct #[f0, f1, f2, f3, f4, f5, f6, f7, f8, f9]))
    (h0 : f0.type = ts ∧ f0.offset = 0) (h1 : f1.type = ti ∧ f1.offset = 1) (h2 : f2.type = td ∧ f2.offset = 2) (h3 : f3.type = ti ∧ f3.offset = 4) (h4 : f4.type = ti ∧ f4.offset = 5)
    (h5 : f5.type = ti ∧ f5.offset = 6) (h6 : f6.type = ti ∧ f6.offset = 7) (h7 : f7.type = ti ∧ f7.offset = 8) (h8 : f8.type = ti ∧ f8.offset = 9) (h9 : f9.type = ti ∧ f9.offset = 10)
    (hd : P.underlying td = some (.struct #[g0, g1])) (hg0 : g0.type = ti ∧ g0.offset = 0) (hg1 : g1.type = ti ∧ g1.offset = 1)
    (cS : P.cellsOf ts = 1) (cI : P.cellsOf ti = 1) (cD : P.cellsOf td = 2)
    (hS : P.underlying ts = some .string) (hI : P.underlying ti = some (.int .i64))
    (n : Nat) (cs : List Value) (y : DataW H × List MemPlace) (hf : DataW.trod enc P w 0 (fun _ => true) true n t cs = some y) (hl : cs.length = 11) : ∃ s : SgV, cs = s.cells ∧ SgOk s := by
  match cs, hl with
  | [c0, c1, c2, c3, c4, c5, c6, c7, c8, c9, c10], _ =>
    obtain ⟨xs, m, _, hx, _, hlen, hg⟩ := DataW.trod_struct hs hf
    match xs, hlen with
    | [y0, y1, y2, y3, y4, y5, y6, y7, y8, y9], _ =>
      have e0 : DataW.trod enc P w 0 (fun _ => true) true m ts [c0] = some y0 := by simpa [Value.cells, h0, cS] using hg 0 f0 rfl
      have e1 : DataW.trod enc P w 0 (fun _ => true) true m ti [c1] = some y1 := by simpa [Value.cells, h1, cI] using hg 1 f1 rfl
      have e2 : DataW.trod enc P w 0 (fun _ => true) true m td [c2, c3] = some y2 := by simpa [Value.cells, h2, cD] using hg 2 f2 rfl
      have e3 : DataW.trod enc P w 0 (fun _ => true) true m ti [c4] = some y3 := by simpa [Value.cells, h3, cI] using hg 3 f3 rfl
      have e4 : DataW.trod enc P w 0 (fun _ => true) true m ti [c5] = some y4 := by simpa [Value.cells, h4, cI] using hg 4 f4 rfl
      have e5 : DataW.trod enc P w 0 (fun _ => true) true m ti [c6] = some y5 := by simpa [Value.cells, h5, cI] using hg 5 f5 rfl
      have e6 : DataW.trod enc P w 0 (fun _ => true) true m ti [c7] = some y6 := by simpa [Value.cells, h6, cI] using hg 6 f6 rfl
      have e7 : DataW.trod enc P w 0 (fun _ => true) true m ti [c8] = some y7 := by simpa [Value.cells, h7, cI] using hg 7 f7 rfl
      have e8 : DataW.trod enc P w 0 (fun _ => true) true m ti [c9] = some y8 := by simpa [Value.cells, h8, cI] using hg 8 f8 rfl
      have e9 : DataW.trod enc P w 0 (fun _ => true) true m ti [c10] = some y9 := by simpa [Value.cells, h9, cI] using hg 9 f9 rfl
      obtain ⟨b, q0, _, wb⟩ := DataW.trod_string hS e0
      obtain ⟨x1, q1, _, w1⟩ := DataW.trod_int hI e1
      obtain ⟨z0, z1, m2, hx2, _, k0, k1⟩ := trod_struct2 hd e2
      rw [hg0.1, hg0.2, cI] at k0
      rw [hg1.1, hg1.2, cI] at k1
      simp only [List.drop_zero, List.drop_succ_cons, List.take_succ_cons, List.take_zero] at k0 k1
      obtain ⟨x2, q2, _, w2⟩ := DataW.trod_int hI k0
      obtain ⟨x3, q3, _, w3⟩ := DataW.trod_int hI k1
      obtain ⟨x4, q4, _, w4⟩ := DataW.trod_int hI e3
      obtain ⟨x5, q5, _, w5⟩ := DataW.trod_int hI e4
      obtain ⟨x6, q6, _, w6⟩ := DataW.trod_int hI e5
      obtain ⟨x7, q7, _, w7⟩ := DataW.trod_int hI e6
      obtain ⟨x8, q8, _, w8⟩ := DataW.trod_int hI e7
      obtain ⟨x9, q9, _, w9⟩ := DataW.trod_int hI e8
      obtain ⟨x10, q10, _, w10⟩ := DataW.trod_int hI e9
      simp only [List.cons.injEq, and_true] at q0 q1 q2 q3 q4 q5 q6 q7 q8 q9 q10
      subst q0 q1 q2 q3 q4 q5 q6 q7 q8 q9 q10
      exact ⟨⟨b, x1, x2, x3, x4, x5, x6, x7, x8, x9, x10⟩, rfl, ⟨by have := wb; unfold maxLen at this; simpa using this, lit_k64 w2, lit_k64 w3, lit_k64 w4, lit_k64 w5⟩⟩
end
set_option maxRecDepth 100000 in
/-- A sight off an argument. -/
theorem sg_arg {H : Type} {enc : TypeId × Value → H} {w : World} {r : Reach} {b0 : Nat} {v : Value} {d : DataW H} {ps : List MemPlace} (hv : Value.okWide Tryz.prog w r b0 68 v) (h : DataW.Trod enc Tryz.prog w 0 (fun _ => true) true 68 v d ps) : ∃ s : SgV, v = s.val ∧ SgOk s := by
  have hC : Tryz.prog.cellsOf 68 = 11 := by kernel_rfl
  obtain ⟨cs, rfl, hsz⟩ := Go.WideShapes.okWide_struct Tryz.underlying68 hv
  obtain ⟨l⟩ := cs
  obtain ⟨fuel, hf⟩ := h
  obtain ⟨s, hs, hw⟩ := sg_elem (ts := 9) (ti := 3) (td := 66) Tryz.underlying68 ⟨rfl, rfl⟩ ⟨rfl, rfl⟩ ⟨rfl, rfl⟩ ⟨rfl, rfl⟩ ⟨rfl, rfl⟩ ⟨rfl, rfl⟩ ⟨rfl, rfl⟩ ⟨rfl, rfl⟩ ⟨rfl, rfl⟩ ⟨rfl, rfl⟩ Tryz.underlying66 ⟨rfl, rfl⟩ ⟨rfl, rfl⟩ (by kernel_rfl) (by kernel_rfl) (by kernel_rfl) Tryz.underlying9 Tryz.underlying3 fuel l _ hf (hsz.trans hC)
  exact ⟨s, by rw [hs]; rfl, hw⟩
end Go.Proofs.YtejmgdpgngjiiaaGreat
/- The average of sights: the plain law. No function of the program. -/
namespace Go.Proofs.YtejmgdpgngjiiaaGreat

/-- The mean's reading and width. -/
def mnHs (readings times n at_ p d : Int) : Int := (2000 * d * readings + 2 * p * (at_ * n - times) + 1000 * d * n) / (2000 * d * n)
def mnWi (w n : Int) : Int := -((-2 * w - n) / (2 * n))
/-- As the program reckons it: first the whole part. -/
theorem mn_split {readings times n at_ p d : Int} (hn : 0 < n) (hd : 0 < d) :
    readings / n + (2 * 1000 * d * (readings - readings / n * n) + 2 * p * (at_ * n - times) + 1000 * d * n) / (2 * 1000 * d * n) = mnHs readings times n at_ p d := by
  unfold mnHs
  have hk : 2000 * d * n ≠ 0 := by
    have := Int.mul_pos (Int.mul_pos (show (0 : Int) < 2000 by decide) hd) hn
    omega
  have e : 2000 * d * readings + 2 * p * (at_ * n - times) + 1000 * d * n = (2 * 1000 * d * (readings - readings / n * n) + 2 * p * (at_ * n - times) + 1000 * d * n) + readings / n * (2000 * d * n) := by
    have e2 : 2000 * d * (readings - readings / n * n) + readings / n * (2000 * d * n) = 2000 * d * readings := by
      rw [Int.mul_sub, Int.mul_comm (readings / n) n, Int.mul_comm (readings / n) (2000 * d * n), Int.mul_assoc (2000 * d) n]
      omega
    rw [show (2 : Int) * 1000 = 2000 from rfl]
    omega
  rw [e, Int.add_mul_ediv_right _ _ hk, show (2 : Int) * 1000 = 2000 from rfl]
  omega
theorem mn_up (w : Int) {n : Int} (hn : 0 < n) : 2 * w + n ≤ 2 * n * mnWi w n := by
  unfold mnWi
  have h := Int.mul_ediv_self_le (x := -2 * w - n) (k := 2 * n) (by omega)
  rw [Int.mul_neg]; omega
/-- The average of sights that are wrong by at most e, at the slope s: wrong by at most its width. -/
theorem mn_sound {n E W s X Hs x0 at_ : Int} (hn : 0 < n) (h1 : E ≤ W) (h2 : -W ≤ E) :
    let hs := mnHs (n * Hs + s * X + E) (1000 * (X - n * x0)) n at_ s 1
    let off := 1000 * (hs - Hs) - s * (1000 * x0 + at_)
    off ≤ 1000 * mnWi W n ∧ -(1000 * mnWi W n) ≤ off := by
  intro hs off
  have hw := mn_up W hn
  have hk : (0 : Int) < 2000 * n := by omega
  have en : 2000 * 1 * (n * Hs + s * X + E) + 2 * s * (at_ * n - 1000 * (X - n * x0)) + 1000 * 1 * n = 2000 * (n * Hs) + 2 * (n * (s * at_)) + 2000 * (n * (s * x0)) + 1000 * n + 2000 * E := by
    have k1 : 2 * s * (at_ * n - 1000 * (X - n * x0)) = 2 * (n * (s * at_)) - 2000 * (s * X) + 2000 * (n * (s * x0)) := by
      rw [Int.mul_assoc 2 s, Int.mul_sub s, Int.mul_left_comm s 1000, Int.mul_sub s, Int.mul_left_comm s n x0, Int.mul_comm at_ n, Int.mul_left_comm s n at_]
      omega
    rw [k1]
    omega
  have e0 : hs = (2000 * (n * Hs) + 2 * (n * (s * at_)) + 2000 * (n * (s * x0)) + 1000 * n + 2000 * E) / (2000 * n) := by
    show mnHs _ _ _ _ _ _ = _
    unfold mnHs
    rw [en, show (2000 : Int) * 1 = 2000 from rfl]
  have l1 := Int.mul_ediv_self_le (x := 2000 * (n * Hs) + 2 * (n * (s * at_)) + 2000 * (n * (s * x0)) + 1000 * n + 2000 * E) (k := 2000 * n) (by omega)
  have l2 := Int.lt_mul_ediv_self_add (x := 2000 * (n * Hs) + 2 * (n * (s * at_)) + 2000 * (n * (s * x0)) + 1000 * n + 2000 * E) (k := 2000 * n) hk
  rw [← e0] at l1 l2
  have eo : n * off = 1000 * (n * hs) - 1000 * (n * Hs) - (1000 * (n * (s * x0)) + n * (s * at_)) := by
    show n * (1000 * (hs - Hs) - s * (1000 * x0 + at_)) = _
    rw [Int.mul_sub, Int.mul_left_comm n 1000, Int.mul_sub, Int.mul_add s, Int.mul_left_comm s 1000, Int.mul_add n, Int.mul_left_comm n 1000]
    omega
  have eh : 2000 * n * hs = 2000 * (n * hs) := Int.mul_assoc _ _ _
  have ew : 2 * n * mnWi W n = 2 * (n * mnWi W n) := Int.mul_assoc _ _ _
  rw [eh] at l1 l2
  rw [ew] at hw
  constructor
  · refine Int.le_of_mul_le_mul_left (a := n) ?_ hn
    rw [Int.mul_left_comm n 1000, eo]; omega
  · refine Int.le_of_mul_le_mul_left (a := n) ?_ hn
    rw [Int.mul_neg, Int.mul_left_comm n 1000, eo]; omega
/-- The residual of a reading that is wrong by e. -/
theorem res_off (Hs s x x0 e : Int) : resI (1000 * (x - x0)) (Hs + s * x + e) s 1 = Hs + s * x0 + e := by
  unfold resI
  have e1 : 2 * s * (1000 * (x - x0)) = 2000 * (s * x) - 2000 * (s * x0) := by
    rw [Int.mul_assoc, Int.mul_left_comm s, Int.mul_sub]; omega
  rw [e1]; omega
/-- One sight, repeated. -/
theorem mn_one {n h p d : Int} (hn : 0 < n) (hd : 0 < d) : mnHs (n * h) 0 n 0 p d = h := by
  unfold mnHs
  have hk : (0 : Int) < 2000 * d * n := Int.mul_pos (Int.mul_pos (by decide) hd) hn
  have e : 2000 * d * (n * h) + 2 * p * (0 * n - 0) + 1000 * d * n = 1000 * d * n + h * (2000 * d * n) := by
    rw [← Int.mul_assoc, Int.mul_comm h]; simp; omega
  have e2 : 2000 * d * n = 2 * (1000 * d * n) := by rw [← Int.mul_assoc, ← Int.mul_assoc]; rfl
  rw [e, Int.add_mul_ediv_right _ _ (by omega), Int.ediv_eq_zero_of_lt (by omega) (by omega), Int.zero_add]
theorem wi_one {n w : Int} (hn : 0 < n) : mnWi (n * w) n = w + 1 := by
  unfold mnWi
  have e : -2 * (n * w) - n = n + -(w + 1) * (2 * n) := by
    have : -(w + 1) * (2 * n) = -2 * (n * w) - 2 * n := by rw [Int.neg_mul, Int.add_mul, Int.mul_left_comm, Int.mul_comm w]; omega
    omega
  rw [e, Int.add_mul_ediv_right _ _ (by omega), Int.ediv_eq_zero_of_lt (by omega) (by omega)]
  omega
theorem res_one (h p : Int) {d : Int} (hd : 0 < d) : resI 0 h p d = h := by
  unfold resI
  rw [Int.mul_zero, Int.sub_zero, Int.ediv_eq_zero_of_lt (by omega) (by omega), Int.add_zero]
end Go.Proofs.YtejmgdpgngjiiaaGreat
/- average.given: its closures. -/
namespace Go.Proofs.YtejmgdpgngjiiaaGreat
open Go.RowKit

set_option maxRecDepth 100000 in
theorem giv1 (s : SgV) (w : World) (hs : SgOk s) :
    Calls Tryz.prog 115 #[s.val] w fun e w' => e = .returned (.bool (!sgB s)) ∧ ∃ d, w' = bw w d := by
  have HV : Hid (∀ W, Calls Tryz.prog 35 #[.agg #[.string s.body, .int .i64 s.limb, .int .i64 s.lo, .int .i64 s.hi, .int .i64 s.hs, .int .i64 s.wi, .int .i64 s.hz, .int .i64 s.ey, .int .i64 s.sh, .int .i64 s.te, .int .i64 s.pr]] W fun e w' => e = .returned (.bool (sgB s)) ∧ ∃ d, w' = bw W d) := Lib.hid fun W => cor_Valid s W hs
  rw [sg_val]
  generalize sgB s = r at *
  clear hs
  obtain ⟨body, limb, lo, hi, hs, wi, hz, ey, sh, te, pr⟩ := s
  dsimp only at *
  refine lay_start ?_
  go_enter Tryz.func115, Tryz.ntmps115
  go_wp2_with (go_at_call 35; refine (HV.out _).mono ?_; rintro e w' ⟨rfl, d, rfl⟩)
  go_ret
  exact ⟨rfl, lay_ex _ _⟩
/-- The cells of the first sight. -/
structure Fst (W : World) (b o : Nat) (s : SgV) : Prop where
  c0 : W.cell? ⟨b, o, none⟩ = some (.string s.body)
  c1 : W.cell? ⟨b, o + 1, none⟩ = some (.int .i64 s.limb)
  c2 : W.cell? ⟨b, o + 2, none⟩ = some (.int .i64 s.lo)
  c3 : W.cell? ⟨b, o + 3, none⟩ = some (.int .i64 s.hi)
  c4 : W.cell? ⟨b, o + 4, none⟩ = some (.int .i64 s.hs)
  c5 : W.cell? ⟨b, o + 5, none⟩ = some (.int .i64 s.wi)
  c6 : W.cell? ⟨b, o + 6, none⟩ = some (.int .i64 s.hz)
  c7 : W.cell? ⟨b, o + 7, none⟩ = some (.int .i64 s.ey)
  c8 : W.cell? ⟨b, o + 8, none⟩ = some (.int .i64 s.sh)
  c9 : W.cell? ⟨b, o + 9, none⟩ = some (.int .i64 s.te)
  c10 : W.cell? ⟨b, o + 10, none⟩ = some (.int .i64 s.pr)
theorem Fst.of {W : World} {v : Value} {l : List SgV} {s : SgV} (h : SlG sgR W v l) (h0 : l[0]? = some s) :
    ∃ b o cap, v = .slice (some ⟨b, o, none⟩) l.length cap ∧ 1 ≤ l.length ∧ (l.length ≤ cap ∧ cap ≤ 9223372036854775807) ∧ b < W.heap.size ∧ Fst W b o s := by
  have hl := (List.getElem?_eq_some_iff.1 h0).1
  obtain ⟨b, o, cap, rfl, hc, hb, hr⟩ := h.open hl
  have g := fun j u (hu : s.cells[j]? = some u) => hr 0 s h0 j u hu
  simp only [Nat.zero_mul, Nat.zero_add] at g
  exact ⟨b, o, cap, rfl, hl, hc, hb, ⟨g 0 _ rfl, g 1 _ rfl, g 2 _ rfl, g 3 _ rfl, g 4 _ rfl, g 5 _ rfl, g 6 _ rfl, g 7 _ rfl, g 8 _ rfl, g 9 _ rfl, g 10 _ rfl⟩⟩
set_option maxHeartbeats 1000000 in
set_option maxRecDepth 100000 in
theorem giv2 (s s0 : SgV) (l : List SgV) (v : Value) (bx : Nat) (w : World) (hx : bx < w.heap.size) (hc : w.cell? ⟨bx, 0, none⟩ = some v) (hl : SlG sgR w v l) (h0 : l[0]? = some s0) :
    Calls Tryz.prog 116 #[s.val, .pointer (some ⟨bx, 0, none⟩)] w fun e w' => e = .returned (.bool (!likB s s0)) ∧ ∃ d, w' = bw w d := by
  obtain ⟨b, o, cap, rfl, h1, hcp, hb, hF⟩ := Fst.of hl h0
  obtain ⟨c0, c1, c2, c3, c4, c5, c6, c7, c8, c9, c10⟩ := hF
  have HV : Hid (∀ W, Calls Tryz.prog 117 #[.agg #[.string s.body, .int .i64 s.limb, .int .i64 s.lo, .int .i64 s.hi, .int .i64 s.hs, .int .i64 s.wi, .int .i64 s.hz, .int .i64 s.ey, .int .i64 s.sh, .int .i64 s.te, .int .i64 s.pr], .agg #[.string s0.body, .int .i64 s0.limb, .int .i64 s0.lo, .int .i64 s0.hi, .int .i64 s0.hs, .int .i64 s0.wi, .int .i64 s0.hz, .int .i64 s0.ey, .int .i64 s0.sh, .int .i64 s0.te, .int .i64 s0.pr]] W fun e w' => e = .returned (.bool (likB s s0)) ∧ ∃ d, w' = bw W d) := Lib.hid fun W => av_like s s0 W
  rw [sg_val]
  generalize likB s s0 = r at *
  generalize l.length = m at *
  clear hl h0
  obtain ⟨body, limb, lo, hi, hs, wi, hz, ey, sh, te, pr⟩ := s
  obtain ⟨q0, q1, q2, q3, q4, q5, q6, q7, q8, q9, q10⟩ := s0
  dsimp only at *
  have y1 : (0 : Int) < (m : Int) := by omega
  refine lay_start ?_
  go_enter Tryz.func116, Tryz.ntmps116
  go_wp2_with fail
  refine region_bw (by kernel_rfl) (by kernel_rfl) ?_
  repeat (go_big_quiet_step ((first | (go_at_call 117; exact bq (HV.out _) (fun d => lay_join _ _ _ d)))))
  refine wpQuiet_nil ?_
  rintro w' ⟨d, rfl⟩
  rw [lay_bw]
  go_wp2_with fail
  go_ret
  exact ⟨rfl, lay_ex _ _⟩
set_option maxHeartbeats 1000000 in
set_option maxRecDepth 100000 in
theorem giv3 (s s0 : SgV) (l : List SgV) (v : Value) (bx : Nat) (w : World) (hx : bx < w.heap.size) (hc : w.cell? ⟨bx, 0, none⟩ = some v) (hl : SlG sgR w v l) (h0 : l[0]? = some s0) (t1 : SgT s) (t2 : SgT s0) :
    Calls Tryz.prog 118 #[s.val, .pointer (some ⟨bx, 0, none⟩)] w fun e w' => e = .returned (.bool (decide (86400000 < max (midI s - midI s0) (-(midI s - midI s0))))) ∧ ∃ d, w' = bw w d := by
  obtain ⟨b, o, cap, rfl, h1, hcp, hb, hF⟩ := Fst.of hl h0
  obtain ⟨c0, c1, c2, c3, c4, c5, c6, c7, c8, c9, c10⟩ := hF
  have m1 := t1.mid
  have m2 := t2.mid
  have HA : Hid (∀ W, Calls Tryz.prog 71 #[.agg #[.string s.body, .int .i64 s.limb, .int .i64 s.lo, .int .i64 s.hi, .int .i64 s.hs, .int .i64 s.wi, .int .i64 s.hz, .int .i64 s.ey, .int .i64 s.sh, .int .i64 s.te, .int .i64 s.pr]] W fun e w' => e = .returned (.int .i64 (midI s)) ∧ ∃ d, w' = bw W d) := Lib.hid fun W => av_middle s W t1
  have HB : Hid (∀ W, Calls Tryz.prog 71 #[.agg #[.string s0.body, .int .i64 s0.limb, .int .i64 s0.lo, .int .i64 s0.hi, .int .i64 s0.hs, .int .i64 s0.wi, .int .i64 s0.hz, .int .i64 s0.ey, .int .i64 s0.sh, .int .i64 s0.te, .int .i64 s0.pr]] W fun e w' => e = .returned (.int .i64 (midI s0)) ∧ ∃ d, w' = bw W d) := Lib.hid fun W => av_middle s0 W t2
  rw [sg_val]
  generalize midI s = M at *
  generalize midI s0 = M0 at *
  have k1 : IntKind.i64.wrap (M - M0) = M - M0 := IntWalk.i64_in _ (by omega)
  have HS := Lib.hid (fun W => av_size (M - M0) W (by omega) (by omega))
  generalize max (M - M0) (-(M - M0)) = D at *
  generalize l.length = m at *
  clear hl h0 t1 t2 m1 m2
  obtain ⟨body, limb, lo, hi, hs, wi, hz, ey, sh, te, pr⟩ := s
  obtain ⟨q0, q1, q2, q3, q4, q5, q6, q7, q8, q9, q10⟩ := s0
  dsimp only at *
  have y1 : (0 : Int) < (m : Int) := by omega
  refine lay_start ?_
  go_enter Tryz.func118, Tryz.ntmps118
  go_wp2_with fail
  refine region_bw (by kernel_rfl) (by kernel_rfl) ?_
  repeat (go_big_quiet_step ((first | (go_at_call 71; first | (with_reducible refine bq (HA.out _) ?_; exact (fun d => lay_join _ _ _ d)) | (with_reducible refine bq (HB.out _) ?_; exact (fun d => lay_join _ _ _ d))) | (go_at_call 41; exact bq (HS.out _) (fun d => lay_join _ _ _ d)))))
  refine wpQuiet_nil ?_
  rintro w' ⟨d, rfl⟩
  rw [lay_bw]
  go_wp2_with fail
  go_ret
  exact ⟨rfl, lay_ex _ _⟩
end Go.Proofs.YtejmgdpgngjiiaaGreat

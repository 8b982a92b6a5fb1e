/- Contracts and plain laws, several texts in one: Pg1; Sta1; Opn; APlain -/
import Derived.Test.YthjfadfebhjhbaaGreatProg
import Derived.WalkKit
import Derived.WalkSpells
import Derived.WalkLawsBesides
import Derived.Lib.Hide
import Derived.BigQuiet
import Derived.Shelf.Abstract
import Derived.Deep.Slices
import Derived.Deep.Fields
import Derived.ChangeSame
import Derived.WideShapes
import Derived.ChangeShapes
import Derived.Lib.SmallJoins
import Derived.Test.YthjfadfebhjhbaaGreatQAA
import Derived.Test.YthjfadfebhjhbaaGreatQAB
/- Names: package decimal's and the reference's. -/
namespace Go.Proofs.YthjfadfebhjhbaaGreat
open Go.RowKit

def letB (c : Int) : Bool := decide ((97 ≤ c ∧ c ≤ 122) ∨ (65 ≤ c ∧ c ≤ 90))
def digB (c : Int) : Bool := decide (48 ≤ c ∧ c ≤ 57)
def wrdB (c : Int) : Bool := letB c || digB c || c == 95
theorem letB_iff {c : Int} : letB c = true ↔ (97 ≤ c ∧ c ≤ 122) ∨ (65 ≤ c ∧ c ≤ 90) := by simp [letB]
theorem digB_iff {c : Int} : digB c = true ↔ 48 ≤ c ∧ c ≤ 57 := by simp [digB]
set_option maxHeartbeats 400000 in
theorem dec_letter (c : Int) (w : World) (h0 : 0 ≤ c) (h1 : c ≤ 255) :
    Calls Tryz.prog 165 #[.int .u8 c] w fun e w' => e = .returned (.bool (letB c)) ∧ w' = w := by
  go_enter Tryz.func165, Tryz.ntmps165
  go_wp2
  all_goals go_ret
  all_goals exact ⟨ret_bool (by rw [Bool.eq_iff_iff, letB_iff]; simp; omega), rfl⟩
set_option maxHeartbeats 400000 in
theorem dec_digit (c : Int) (w : World) (h0 : 0 ≤ c) (h1 : c ≤ 255) :
    Calls Tryz.prog 201 #[.int .u8 c] w fun e w' => e = .returned (.bool (digB c)) ∧ w' = w := by
  go_enter Tryz.func201, Tryz.ntmps201
  go_wp2
  all_goals go_ret
  all_goals exact ⟨ret_bool (by rw [Bool.eq_iff_iff, digB_iff]; simp; omega), rfl⟩
set_option maxHeartbeats 400000 in
theorem dec_word (c : Int) (w : World) (h0 : 0 ≤ c) (h1 : c ≤ 255) :
    Calls Tryz.prog 164 #[.int .u8 c] w fun e w' => e = .returned (.bool (wrdB c)) ∧ w' = w := by
  go_enter Tryz.func164, Tryz.ntmps164
  go_wp2_with (first | (go_at_call 165; refine (dec_letter _ _ h0 h1).mono ?_; rintro e w' ⟨rfl, rfl⟩) | (go_at_call 201; refine (dec_digit _ _ h0 h1).mono ?_; rintro e w' ⟨rfl, rfl⟩))
  all_goals go_ret
  all_goals exact ⟨ret_bool (by simp [wrdB, *]), rfl⟩
def bt (s : ByteArray) (i : Nat) : Int := ((s.data.toList.getD i 0).toNat : Int)
theorem bt_get {s : ByteArray} {i : Nat} (h : i < s.size) : ((s[i]'h).toNat : Int) = bt s i := by
  unfold bt
  rw [List.getD_eq_getElem?_getD, List.getElem?_eq_getElem (by simpa using h)]
  rfl
theorem bt_bd (s : ByteArray) (i : Nat) : 0 ≤ bt s i ∧ bt s i ≤ 255 := by
  unfold bt
  have := (s.data.toList.getD i 0).toNat_lt
  omega
def AllW (s : ByteArray) (k : Nat) : Prop := ∀ i, i < k → wrdB (bt s i) = true
structure Name (s : ByteArray) : Prop where
  len : s.size ≤ 20
  pos : 0 < s.size
  all : AllW s s.size
  hd : letB (bt s 0) = true
noncomputable def nameB (s : ByteArray) : Bool := @decide (Name s) (Classical.propDecidable _)
theorem nameB_iff {s : ByteArray} : nameB s = true ↔ Name s := by unfold nameB; simp
theorem nameB_no {s : ByteArray} (h : ¬ Name s) : false = nameB s := by cases e : nameB s; rfl; exact absurd (nameB_iff.1 e) h
theorem nameB_yes {s : ByteArray} (h : Name s) : true = nameB s := (nameB_iff.2 h).symm
noncomputable def allwB (s : ByteArray) : Bool := @decide (0 < s.size ∧ AllW s s.size) (Classical.propDecidable _)
theorem allwB_iff {s : ByteArray} : allwB s = true ↔ 0 < s.size ∧ AllW s s.size := by unfold allwB; simp
theorem allwB_no {s : ByteArray} (h : ¬ (0 < s.size ∧ AllW s s.size)) : false = allwB s := by cases e : allwB s; rfl; exact absurd (allwB_iff.1 e) h
theorem str_all {s : ByteArray} (h : AllW s s.size) : (!s.toList.isEmpty) = allwB s := by
  rw [Bool.eq_iff_iff, allwB_iff, ByteArray.toList_eq]
  have e : s.size = s.data.toList.length := by simp
  rw [Bool.not_eq_true', List.isEmpty_eq_false_iff]
  constructor
  · intro h1; exact ⟨by rw [e]; exact List.length_pos_iff.2 h1, h⟩
  · intro h1 h2; rw [h2, List.length_nil] at e; have := h1.1; omega
set_option maxHeartbeats 1000000 in
theorem dec_all (s : ByteArray) (w : World) (hs : s.size ≤ 9223372036854775807) :
    Calls Tryz.prog 163 #[.string s, .func (.func 164) #[] #[]] w fun e w' => e = .returned (.bool (allwB s)) ∧ w' = w := by
  go_enter Tryz.func163, Tryz.ntmps163
  go_wp2_with fail
  go_loop [8] (fun i => ∃ k : Nat, k ≤ s.size ∧ i = .int .i64 k ∧ AllW s k) (fun i => s.size - (intOf i).toNat)
  case atStart => exact ⟨0, Nat.zero_le _, rfl, fun i hi => absurd hi (Nat.not_lt_zero i)⟩
  case round =>
    obtain ⟨k, hk, rfl, hA⟩ := hrel
    have HA := Lib.hid hA
    clear hA
    by_cases hlt : k < s.size
    · have e := bt_get hlt
      have b := bt_bd s k
      cases hw : wrdB (bt s k)
      · have HN : Hid (false = allwB s) := Lib.hid (allwB_no fun h => by have := h.2 k hlt; rw [hw] at this; cases this)
        go_wp2_with (go_at_call 164; refine (dec_word _ _ (by omega) (by omega)).mono ?_; rintro e w' ⟨rfl, rfl⟩)
        go_ret
        exact ⟨ret_bool HN.out, rfl⟩
      · have HN := Lib.hid hw
        go_wp2_with (go_at_call 164; refine (dec_word _ _ (by omega) (by omega)).mono ?_; rintro e w' ⟨rfl, rfl⟩)
        go_round
        case rel => exact ⟨k + 1, by omega, by go_num, fun i hi => by
          by_cases e : i = k
          · subst e; exact HN.out
          · exact HA.out i (by omega)⟩
        case measure => simp [intOf]; omega
    · obtain rfl : k = s.size := by omega
      have HN : Hid ((!s.toList.isEmpty) = allwB s) := Lib.hid (str_all HA.out)
      go_wp2
      go_ret
      exact ⟨ret_bool HN.out, rfl⟩
set_option maxHeartbeats 1000000 in
theorem dec_IsName (s : ByteArray) (w : World) (hs : s.size ≤ 9223372036854775807) :
    Calls Tryz.prog 124 #[.string s] w fun e w' => e = .returned (.bool (nameB s)) ∧ w' = w := by
  by_cases h20 : s.size ≤ 20
  · cases ha : allwB s
    · have HN : Hid (false = nameB s) := Lib.hid (nameB_no fun h => by have := allwB_iff.2 ⟨h.pos, h.all⟩; rw [ha] at this; cases this)
      go_enter Tryz.func124, Tryz.ntmps124
      go_wp2_with (go_at_call 163; refine (dec_all s _ hs).mono ?_; rintro e w' ⟨rfl, rfl⟩)
      go_ret
      exact ⟨ret_bool HN.out, rfl⟩
    · obtain ⟨p, q⟩ := allwB_iff.1 ha
      have e := bt_get p
      have b := bt_bd s 0
      obtain ⟨b0, b1⟩ := b
      cases hl : letB (bt s 0)
      · have HN : Hid (false = nameB s) := Lib.hid (nameB_no fun h => by have := h.hd; rw [hl] at this; cases this)
        clear q
        go_enter Tryz.func124, Tryz.ntmps124
        go_wp2_with (first | (go_at_call 163; refine (dec_all s _ hs).mono ?_; rintro e w' ⟨rfl, rfl⟩) | (go_at_call 165; refine (dec_letter _ _ (by omega) (by omega)).mono ?_; rintro e w' ⟨rfl, rfl⟩))
        go_ret
        exact ⟨ret_bool HN.out, rfl⟩
      · have HN : Hid (true = nameB s) := Lib.hid (nameB_yes ⟨h20, p, q, hl⟩)
        clear q
        go_enter Tryz.func124, Tryz.ntmps124
        go_wp2_with (first | (go_at_call 163; refine (dec_all s _ hs).mono ?_; rintro e w' ⟨rfl, rfl⟩) | (go_at_call 165; refine (dec_letter _ _ (by omega) (by omega)).mono ?_; rintro e w' ⟨rfl, rfl⟩))
        go_ret
        exact ⟨ret_bool HN.out, rfl⟩
  · have HN : Hid (false = nameB s) := Lib.hid (nameB_no fun h => h20 h.len)
    go_enter Tryz.func124, Tryz.ntmps124
    go_wp2
    go_ret
    exact ⟨ret_bool HN.out, rfl⟩
end Go.Proofs.YthjfadfebhjhbaaGreat
/- Stars as records: lists of stars that read; slices.IndexFunc and ContainsFunc over them; a star's numbers; the index of a name; valid catalogues. -/
namespace Go.Proofs.YthjfadfebhjhbaaGreat
open Go.RowKit

structure StarV where
  s : ByteArray
  sha : Int
  dec : Int
  mag : Int
def stR : RecT StarV := { E := 117, S := 23, k := 4, bytes := 40, enc := fun x => [.string x.s, .int .i64 x.sha, .int .i64 x.dec, .int .i64 x.mag], wf := fun x => x.s.size ≤ 9223372036854775807 ∧ (Lit.int .i64 x.sha).wf = true ∧ (Lit.int .i64 x.dec).wf = true ∧ (Lit.int .i64 x.mag).wf = true }
theorem info_st : (Tryz.prog.info? 117).map (fun i => (i.zero.map (fun z => z.cells.size), i.size, i.bytes)) = some (some 4, 4, 40) := by kernel_rfl
theorem recInfo {E : TypeId} {k b : Nat} (h : (Tryz.prog.info? E).map (fun i => (i.zero.map (fun z => z.cells.size), i.size, i.bytes)) = some (some k, k, b)) : ∃ i z, Tryz.prog.info? E = some i ∧ i.zero = some z ∧ i.size = k ∧ i.bytes = b ∧ z.cells.size = k := by
  cases hi : Tryz.prog.info? E with
  | none => rw [hi] at h; cases h
  | some i =>
    rw [hi] at h
    simp only [Option.map_some, Option.some.injEq, Prod.mk.injEq] at h
    obtain ⟨h1, h2, h3⟩ := h
    cases hz : i.zero with
    | none => rw [hz] at h1; cases h1
    | some z =>
      rw [hz] at h1
      simp only [Option.map_some, Option.some.injEq] at h1
      exact ⟨i, z, rfl, hz, h2, h3, h1⟩
theorem stOk : RecOk stR where
  len _ := rfl
  one x u hu := by
    simp only [stR, List.mem_cons, List.not_mem_nil, or_false] at hu
    rcases hu with rfl | rfl | rfl | rfl <;> rfl
  pos := by decide
  und := Tryz.underlying23
  info := recInfo info_st
  small := by decide
theorem slG_get {α : Type} {R : RecT α} {w : World} {b o n c : Nat} {l : List α} (h : SlG R w (.slice (some ⟨b, o, none⟩) n c) l) {i : Nat} {x : α} (hx : l[i]? = some x) {j : Nat} {u : Value} (hu : (R.enc x)[j]? = some u) : w.cell? ⟨b, o + (i * R.k + j), none⟩ = some u := by
  have hl : 0 < l.length := by have := (List.getElem?_eq_some_iff.1 hx).1; omega
  obtain ⟨b', o', c', e, _, _, hr⟩ := h.open hl
  cases e
  exact hr i x hx j u hu

def idxR {α : Type} (p : α → Bool) : List α → Nat → Int
  | [], _ => -1
  | x :: l, k => if p x then (k : Int) else idxR p l (k + 1)
theorem idxR_bd {α : Type} (p : α → Bool) : ∀ (l : List α) (k : Nat), idxR p l k = -1 ∨ ((k : Int) ≤ idxR p l k ∧ idxR p l k < (k : Int) + l.length)
  | [], _ => .inl rfl
  | x :: l, k => by
    unfold idxR
    split
    · right; simp only [List.length_cons]; omega
    · rcases idxR_bd p l (k + 1) with h | h
      · exact .inl h
      · right; simp only [List.length_cons]; omega
theorem idxR_any {α : Type} (p : α → Bool) : ∀ (l : List α) (k : Nat), decide (0 ≤ idxR p l k) = l.any p
  | [], _ => rfl
  | x :: l, k => by
    unfold idxR
    rw [List.any_cons, ← idxR_any p l (k + 1)]
    cases p x
    · simp
    · simp
theorem idxR_miss {α : Type} {p : α → Bool} {l : List α} {k : Nat} {x : α} (hx : l[k]? = some x) (h : p x = false) (e : idxR p l 0 = idxR p (l.drop k) k) : idxR p l 0 = idxR p (l.drop (k + 1)) (k + 1) := by
  obtain ⟨hk, rfl⟩ := List.getElem?_eq_some_iff.1 hx
  rw [e, List.drop_eq_getElem_cons hk]
  show (if p l[k] then (k : Int) else _) = _
  rw [h]; rfl
theorem idxR_got {α : Type} {p : α → Bool} {l : List α} {k : Nat} {x : α} (hx : l[k]? = some x) (h : p x = true) (e : idxR p l 0 = idxR p (l.drop k) k) : (k : Int) = idxR p l 0 := by
  obtain ⟨hk, rfl⟩ := List.getElem?_eq_some_iff.1 hx
  rw [e, List.drop_eq_getElem_cons hk]
  show _ = (if p l[k] then (k : Int) else _)
  rw [h]; rfl
theorem idxR_end {α : Type} {p : α → Bool} {l : List α} {k : Nat} (hk : l.length ≤ k) (e : idxR p l 0 = idxR p (l.drop k) k) : (-1 : Int) = idxR p l 0 := by
  rw [e, List.drop_of_length_le hk]; rfl

def IdxPost (w : World) (x : Int) (e : Ending) (w' : World) : Prop := e = .returned (.int .i64 x) ∧ ∃ d, w' = bw w d
set_option maxHeartbeats 1000000 in
theorem st_IndexFunc (g : FuncId) (lb : List Value) (p : StarV → Bool) (v : Value) (l : List StarV) (w : World) (hv : SlG stR w v l)
    (eI : ∀ args w, (callFunc g args).run Tryz.prog w = .ok (.enter g args) w)
    (hf : ∀ x ∈ l, ∀ d, Calls Tryz.prog g (.agg (stR.enc x).toArray :: lb).toArray (bw w d) fun e w' => e = .returned (.bool (p x)) ∧ ∃ d, w' = bw w d) :
    Calls Tryz.prog 100 #[v, .func (.func g) #[] lb.toArray] w (IdxPost w (idxR p l 0)) := by
  by_cases hz : l = []
  · subst hz
    obtain ⟨a, cap, rfl⟩ := hv.form
    clear hf
    refine lay_start ?_
    go_enter Tryz.func100, Tryz.ntmps100
    go_wp2_with fail
    refine wp_loop_rounds 1 ?_
    rw [rounds_succ]
    go_wp2
    go_ret
    exact ⟨rfl, lay_ex _ _⟩
  · obtain ⟨b, o, cap, rfl, hc, hb, hr⟩ := hv.open (List.length_pos_iff.2 hz)
    obtain ⟨m, hm⟩ : ∃ m, l.length = m := ⟨_, rfl⟩
    have HF := Lib.hid hf
    have HM := Lib.hid hm
    rw [hm] at hc ⊢
    have HR : Hid (∀ i x, l[i]? = some x → w.cell? ⟨b, o + i * 4, none⟩ = some (.string x.s) ∧ w.cell? ⟨b, o + i * 4 + 1, none⟩ = some (.int .i64 x.sha) ∧ w.cell? ⟨b, o + i * 4 + 2, none⟩ = some (.int .i64 x.dec) ∧ w.cell? ⟨b, o + i * 4 + 3, none⟩ = some (.int .i64 x.mag)) :=
      Lib.hid (fun i x hx => ⟨hr i x hx 0 _ rfl, hr i x hx 1 _ rfl, hr i x hx 2 _ rfl, hr i x hx 3 _ rfl⟩)
    clear hf hz hm hr hv
    refine lay_start ?_
    go_enter Tryz.func100, Tryz.ntmps100
    go_wp2_with fail
    go_loopw [8] (fun i wr => ∃ (k : Nat) (d : Ext), k ≤ m ∧ i = .int .i64 k ∧ wr = lay w [.inr d] ∧ idxR p l 0 = idxR p (l.drop k) k) (fun i _ => m - (intOf i).toNat)
    case atStart => exact ⟨0, noExt _, Nat.zero_le _, rfl, (bw_noExt _).symm, rfl⟩
    case round =>
      obtain ⟨k, d, hk, rfl, rfl, hA⟩ := hrel
      have HA := Lib.hid hA
      clear hA
      by_cases hlt : k < m
      · obtain ⟨x, hx⟩ : ∃ x, l[k]? = some x := ⟨_, List.getElem?_eq_getElem (by rw [HM.out]; exact hlt)⟩
        obtain ⟨e0, e1, e2, e3⟩ := HR.out k x hx
        have H1 : Hid (Calls Tryz.prog g (.agg #[.string x.s, .int .i64 x.sha, .int .i64 x.dec, .int .i64 x.mag] :: lb).toArray (lay w [.inr d]) fun e w' => e = .returned (.bool (p x)) ∧ ∃ d, w' = bw w d) := Lib.hid (HF.out x (List.mem_of_getElem? hx) d)
        cases ho : p x
        · have HN := Lib.hid (idxR_miss hx ho HA.out)
          rw [ho] at H1
          clear ho hx
          obtain ⟨xs, x1, x2, x3⟩ := x
          dsimp only at e0 e1 e2 e3 H1
          go_wp2_with (refine H1.out.mono ?_; rintro e w' ⟨rfl, d1, rfl⟩)
          go_roundw
          case rel => exact ⟨k + 1, d1, by omega, by go_num, rfl, HN.out⟩
          case measure => simp [intOf]; omega
        · have HN := Lib.hid (idxR_got hx ho HA.out)
          rw [ho] at H1
          clear ho hx
          obtain ⟨xs, x1, x2, x3⟩ := x
          dsimp only at e0 e1 e2 e3 H1
          go_wp2_with (refine H1.out.mono ?_; rintro e w' ⟨rfl, d1, rfl⟩)
          go_ret
          exact ⟨ret_int HN.out, d1, rfl⟩
      · have HN := Lib.hid (idxR_end (k := k) (by rw [HM.out]; omega) HA.out)
        go_wp2
        go_ret
        exact ⟨ret_int HN.out, lay_ex _ _⟩
end Go.Proofs.YthjfadfebhjhbaaGreat
/- Opening rows of records off an argument: a slice reads as a list of records, each with what its cells say. -/
namespace Go.Proofs.YthjfadfebhjhbaaGreat
open Go.RowKit

section
variable {H : Type} {enc : TypeId × Value → H} {P : Program}

open Go.ChangeShapes Go.WideShapes Go.Deep in
theorem st_elem {w : World} {t ts ti : TypeId} {f0 f1 f2 f3 : Field} (hs : P.underlying t = some (.struct #[f0, f1, f2, f3])) (hone : oneCellFields P #[f0, f1, f2, f3] = true)
    (ht : f0.type = ts ∧ f1.type = ti ∧ f2.type = ti ∧ f3.type = ti) (hS : P.underlying ts = some .string) (hI : P.underlying ti = some (.int .i64))
    (n : Nat) (cs : List Value) (y : DataW H × List MemPlace) (hf : DataW.trod enc P w 0 (fun _ => true) true n t cs = some y) (hl : cs.length = 4) : ∃ z, cs = stR.enc z ∧ stR.wf z ∧ True := by
  match cs, hl with
  | [c0, c1, c2, c3], _ =>
    obtain ⟨xs, m, _, hx, _, hlen, hg⟩ := DataW.trod_struct hs hf
    obtain ⟨o0, k0⟩ := hone_of hone 0 f0 rfl
    obtain ⟨o1, k1⟩ := hone_of hone 1 f1 rfl
    obtain ⟨o2, k2⟩ := hone_of hone 2 f2 rfl
    obtain ⟨o3, k3⟩ := hone_of hone 3 f3 rfl
    match xs, hlen with
    | [y0, y1, y2, y3], _ =>
      have e0 : DataW.trod enc P w 0 (fun _ => true) true m f0.type [c0] = some y0 := by simpa [Value.cells, o0, k0] using hg 0 f0 rfl
      have e1 : DataW.trod enc P w 0 (fun _ => true) true m f1.type [c1] = some y1 := by simpa [Value.cells, o1, k1] using hg 1 f1 rfl
      have e2 : DataW.trod enc P w 0 (fun _ => true) true m f2.type [c2] = some y2 := by simpa [Value.cells, o2, k2] using hg 2 f2 rfl
      have e3 : DataW.trod enc P w 0 (fun _ => true) true m f3.type [c3] = some y3 := by simpa [Value.cells, o3, k3] using hg 3 f3 rfl
      obtain ⟨t0, t1, t2, t3⟩ := ht
      rw [t0] at e0; rw [t1] at e1; rw [t2] at e2; rw [t3] at e3
      obtain ⟨s, q0, _, ws⟩ := DataW.trod_string hS e0
      obtain ⟨x1, q1, _, w1⟩ := DataW.trod_int hI e1
      obtain ⟨x2, q2, _, w2⟩ := DataW.trod_int hI e2
      obtain ⟨x3, q3, _, w3⟩ := DataW.trod_int hI e3
      simp only [List.cons.injEq, and_true] at q0 q1 q2 q3
      subst q0 q1 q2 q3
      exact ⟨⟨s, x1, x2, x3⟩, rfl, ⟨ws, w1, w2, w3⟩, trivial⟩
end
set_option maxRecDepth 100000 in
theorem st_arg {H : Type} {enc : TypeId × Value → H} {w : World} {r : Reach} {b0 : Nat} {v : Value} {d : DataW H} {ps : List MemPlace} (hv : Value.okWide Tryz.prog w r b0 23 v) (h : DataW.Trod enc Tryz.prog w 0 (fun _ => true) true 23 v d ps) : ∃ l, SlG stR w v l := by
  have hC : Tryz.prog.cellsOf stR.E = stR.k := by kernel_rfl
  have hel : ∀ n cs y, DataW.trod enc Tryz.prog w 0 (fun _ => true) true n stR.E cs = some y → cs.length = stR.k → ∃ z, cs = stR.enc z ∧ stR.wf z ∧ True :=
    fun n cs y => st_elem (ts := 9) (ti := 3) Tryz.underlying117 (by kernel_rfl) ⟨rfl, rfl, rfl, rfl⟩ Tryz.underlying9 Tryz.underlying3 n cs y
  obtain ⟨l, hl, _⟩ := slG_arg (Q := fun _ => True) stOk stOk.und hC hel hv h
  exact ⟨l, hl⟩
end Go.Proofs.YthjfadfebhjhbaaGreat
/- Audit, the plain law: steps, differences, possible lists, repairs. No program in sight. -/
namespace Go.Proofs.YthjfadfebhjhbaaGreat
open Go.RowKit

def nth (g : List Int) (i : Nat) : Int := g.getD i 0
theorem nth_set (l : List Int) (at_ : Nat) (v : Int) (h : at_ < l.length) (i : Nat) : nth (l.set at_ v) i = if i = at_ then v else nth l i := by
  unfold nth
  by_cases e : i = at_
  · subst e; rw [if_pos rfl]; simp [List.getD, h]
  · rw [if_neg e]
    simp only [List.getD]
    rw [List.getElem?_set_ne (fun h => e h.symm)]
end Go.Proofs.YthjfadfebhjhbaaGreat

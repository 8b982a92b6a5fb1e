/- Stars as records: lists of stars that read; slices.IndexFunc and ContainsFunc over them; a star's numbers; the index of a name; valid catalogues. -/
import Derived.Test.YtlkphcjlgbimkaaGreatProg
import Derived.Test.YtlkphcjlgbimkaaGreatLay
import Derived.Test.YtlkphcjlgbimkaaGreatRegion
import Derived.Test.YtlkphcjlgbimkaaGreatMix
import Derived.WalkKit
import Derived.WalkSpells
import Derived.WalkLawsBesides
import Derived.Lib.Hide
import Derived.BigQuiet
import Derived.Test.YtlkphcjlgbimkaaGreatPlain
import Derived.Test.YtlkphcjlgbimkaaGreatPg1
import Derived.Test.YtlkphcjlgbimkaaGreatRow
import Derived.Shelf.Abstract
namespace Go.Proofs.YtlkphcjlgbimkaaGreat
open Go.RowKit

structure StarV where
  s : ByteArray
  sha : Int
  dec : Int
  mag : Int
def stR : RecT StarV := { E := 70, S := 23, k := 4, bytes := 40, enc := fun x => [.string x.s, .int .i64 x.sha, .int .i64 x.dec, .int .i64 x.mag], wf := fun x => x.s.size ≤ 9223372036854775807 ∧ (Lit.int .i64 x.sha).wf = true ∧ (Lit.int .i64 x.dec).wf = true ∧ (Lit.int .i64 x.mag).wf = true }
theorem info_st : (Tryz.prog.info? 70).map (fun i => (i.zero.map (fun z => z.cells.size), i.size, i.bytes)) = some (some 4, 4, 40) := by kernel_rfl
theorem recInfo {E : TypeId} {k b : Nat} (h : (Tryz.prog.info? E).map (fun i => (i.zero.map (fun z => z.cells.size), i.size, i.bytes)) = some (some k, k, b)) : ∃ i z, Tryz.prog.info? E = some i ∧ i.zero = some z ∧ i.size = k ∧ i.bytes = b ∧ z.cells.size = k := by
  cases hi : Tryz.prog.info? E with
  | none => rw [hi] at h; cases h
  | some i =>
    rw [hi] at h
    simp only [Option.map_some, Option.some.injEq, Prod.mk.injEq] at h
    obtain ⟨h1, h2, h3⟩ := h
    cases hz : i.zero with
    | none => rw [hz] at h1; cases h1
    | some z =>
      rw [hz] at h1
      simp only [Option.map_some, Option.some.injEq] at h1
      exact ⟨i, z, rfl, hz, h2, h3, h1⟩
theorem stOk : RecOk stR where
  len _ := rfl
  one x u hu := by
    simp only [stR, List.mem_cons, List.not_mem_nil, or_false] at hu
    rcases hu with rfl | rfl | rfl | rfl <;> rfl
  pos := by decide
  und := Tryz.underlying23
  info := recInfo info_st
  small := by decide
theorem slG_get {α : Type} {R : RecT α} {w : World} {b o n c : Nat} {l : List α} (h : SlG R w (.slice (some ⟨b, o, none⟩) n c) l) {i : Nat} {x : α} (hx : l[i]? = some x) {j : Nat} {u : Value} (hu : (R.enc x)[j]? = some u) : w.cell? ⟨b, o + (i * R.k + j), none⟩ = some u := by
  have hl : 0 < l.length := by have := (List.getElem?_eq_some_iff.1 hx).1; omega
  obtain ⟨b', o', c', e, _, _, hr⟩ := h.open hl
  cases e
  exact hr i x hx j u hu

/-- The first place from which a list's rest begins with one that p holds of, or -1. -/
def idxR {α : Type} (p : α → Bool) : List α → Nat → Int
  | [], _ => -1
  | x :: l, k => if p x then (k : Int) else idxR p l (k + 1)
theorem idxR_bd {α : Type} (p : α → Bool) : ∀ (l : List α) (k : Nat), idxR p l k = -1 ∨ ((k : Int) ≤ idxR p l k ∧ idxR p l k < (k : Int) + l.length)
  | [], _ => .inl rfl
  | x :: l, k => by
    unfold idxR
    split
    · right; simp only [List.length_cons]; omega
    · rcases idxR_bd p l (k + 1) with h | h
      · exact .inl h
      · right; simp only [List.length_cons]; omega
theorem idxR_any {α : Type} (p : α → Bool) : ∀ (l : List α) (k : Nat), decide (0 ≤ idxR p l k) = l.any p
  | [], _ => rfl
  | x :: l, k => by
    unfold idxR
    rw [List.any_cons, ← idxR_any p l (k + 1)]
    cases p x
    · simp
    · simp
theorem idxR_miss {α : Type} {p : α → Bool} {l : List α} {k : Nat} {x : α} (hx : l[k]? = some x) (h : p x = false) (e : idxR p l 0 = idxR p (l.drop k) k) : idxR p l 0 = idxR p (l.drop (k + 1)) (k + 1) := by
  obtain ⟨hk, rfl⟩ := List.getElem?_eq_some_iff.1 hx
  rw [e, List.drop_eq_getElem_cons hk]
  show (if p l[k] then (k : Int) else _) = _
  rw [h]; rfl
theorem idxR_got {α : Type} {p : α → Bool} {l : List α} {k : Nat} {x : α} (hx : l[k]? = some x) (h : p x = true) (e : idxR p l 0 = idxR p (l.drop k) k) : (k : Int) = idxR p l 0 := by
  obtain ⟨hk, rfl⟩ := List.getElem?_eq_some_iff.1 hx
  rw [e, List.drop_eq_getElem_cons hk]
  show _ = (if p l[k] then (k : Int) else _)
  rw [h]; rfl
theorem idxR_end {α : Type} {p : α → Bool} {l : List α} {k : Nat} (hk : l.length ≤ k) (e : idxR p l 0 = idxR p (l.drop k) k) : (-1 : Int) = idxR p l 0 := by
  rw [e, List.drop_of_length_le hk]; rfl

def IdxPost (w : World) (x : Int) (e : Ending) (w' : World) : Prop := e = .returned (.int .i64 x) ∧ ∃ d, w' = bw w d
set_option maxHeartbeats 1000000 in
theorem st_IndexFunc (g : FuncId) (lb : List Value) (p : StarV → Bool) (v : Value) (l : List StarV) (w : World) (hv : SlG stR w v l)
    (eI : ∀ args w, (callFunc g args).run Tryz.prog w = .ok (.enter g args) w)
    (hf : ∀ x ∈ l, ∀ d, Calls Tryz.prog g (.agg (stR.enc x).toArray :: lb).toArray (bw w d) fun e w' => e = .returned (.bool (p x)) ∧ ∃ d, w' = bw w d) :
    Calls Tryz.prog 61 #[v, .func (.func g) #[] lb.toArray] w (IdxPost w (idxR p l 0)) := by
  by_cases hz : l = []
  · subst hz
    obtain ⟨a, cap, rfl⟩ := hv.form
    clear hf
    refine lay_start ?_
    go_enter Tryz.func61, Tryz.ntmps61
    go_wp2_with fail
    refine wp_loop_rounds 1 ?_
    rw [rounds_succ]
    go_wp2
    go_ret
    exact ⟨rfl, lay_ex _ _⟩
  · obtain ⟨b, o, cap, rfl, hc, hb, hr⟩ := hv.open (List.length_pos_iff.2 hz)
    obtain ⟨m, hm⟩ : ∃ m, l.length = m := ⟨_, rfl⟩
    have HF := Lib.hid hf
    have HM := Lib.hid hm
    rw [hm] at hc ⊢
    have HR : Hid (∀ i x, l[i]? = some x → w.cell? ⟨b, o + i * 4, none⟩ = some (.string x.s) ∧ w.cell? ⟨b, o + i * 4 + 1, none⟩ = some (.int .i64 x.sha) ∧ w.cell? ⟨b, o + i * 4 + 2, none⟩ = some (.int .i64 x.dec) ∧ w.cell? ⟨b, o + i * 4 + 3, none⟩ = some (.int .i64 x.mag)) :=
      Lib.hid (fun i x hx => ⟨hr i x hx 0 _ rfl, hr i x hx 1 _ rfl, hr i x hx 2 _ rfl, hr i x hx 3 _ rfl⟩)
    clear hf hz hm hr hv
    refine lay_start ?_
    go_enter Tryz.func61, Tryz.ntmps61
    go_wp2_with fail
    go_loopw [8] (fun i wr => ∃ (k : Nat) (d : Ext), k ≤ m ∧ i = .int .i64 k ∧ wr = lay w [.inr d] ∧ idxR p l 0 = idxR p (l.drop k) k) (fun i _ => m - (intOf i).toNat)
    case atStart => exact ⟨0, noExt _, Nat.zero_le _, rfl, (bw_noExt _).symm, rfl⟩
    case round =>
      obtain ⟨k, d, hk, rfl, rfl, hA⟩ := hrel
      have HA := Lib.hid hA
      clear hA
      by_cases hlt : k < m
      · obtain ⟨x, hx⟩ : ∃ x, l[k]? = some x := ⟨_, List.getElem?_eq_getElem (by rw [HM.out]; exact hlt)⟩
        obtain ⟨e0, e1, e2, e3⟩ := HR.out k x hx
        have H1 : Hid (Calls Tryz.prog g (.agg #[.string x.s, .int .i64 x.sha, .int .i64 x.dec, .int .i64 x.mag] :: lb).toArray (lay w [.inr d]) fun e w' => e = .returned (.bool (p x)) ∧ ∃ d, w' = bw w d) := Lib.hid (HF.out x (List.mem_of_getElem? hx) d)
        cases ho : p x
        · have HN := Lib.hid (idxR_miss hx ho HA.out)
          rw [ho] at H1
          clear ho hx
          obtain ⟨xs, x1, x2, x3⟩ := x
          dsimp only at e0 e1 e2 e3 H1
          go_wp2_with (refine H1.out.mono ?_; rintro e w' ⟨rfl, d1, rfl⟩)
          go_roundw
          case rel => exact ⟨k + 1, d1, by omega, by go_num, rfl, HN.out⟩
          case measure => simp [intOf]; omega
        · have HN := Lib.hid (idxR_got hx ho HA.out)
          rw [ho] at H1
          clear ho hx
          obtain ⟨xs, x1, x2, x3⟩ := x
          dsimp only at e0 e1 e2 e3 H1
          go_wp2_with (refine H1.out.mono ?_; rintro e w' ⟨rfl, d1, rfl⟩)
          go_ret
          exact ⟨ret_int HN.out, d1, rfl⟩
      · have HN := Lib.hid (idxR_end (k := k) (by rw [HM.out]; omega) HA.out)
        go_wp2
        go_ret
        exact ⟨ret_int HN.out, lay_ex _ _⟩
end Go.Proofs.YtlkphcjlgbimkaaGreat

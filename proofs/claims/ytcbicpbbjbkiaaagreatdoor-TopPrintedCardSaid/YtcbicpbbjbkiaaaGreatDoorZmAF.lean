/- Contracts and plain laws, several texts in one: LgE; LgR; Angle; Clk; LgA; LgB; LgC; TpA; TpB; TpC -/
import Derived.Test.YtcbicpbbjbkiaaaGreatDoorProg
import Derived.WalkKit
import Derived.WalkSpells
import Derived.WalkLawsBesides
import Derived.Lib.Hide
import Derived.BigQuiet
import Derived.Laws.CopyRow
import Derived.Laws.Cells
import Derived.Lib.ItoaNum
import Derived.Lib.IndexMore
import Derived.Lib.CutLaws
import Derived.Lib.Builder
import Derived.Lib.AppendStr
import Derived.Shelf.Strings.Builder1
import Derived.WalkSmall
import Derived.BarOnce
import Derived.Lib.AppendIntMem
import Derived.Test.YtcbicpbbjbkiaaaGreatDoorZmAA
import Derived.Test.YtcbicpbbjbkiaaaGreatDoorZmAB
import Derived.Test.YtcbicpbbjbkiaaaGreatDoorZmAE
namespace Go.Proofs.YtcbicpbbjbkiaaaGreatDoor
open Go.RowKit

theorem ow_litI {w : World} {L : List (Obj ⊕ Ext)} {cs : Array Value} (l : List Int) (hc : cs.toList = l.map (Value.int .i64)) (hl : l.length ≤ 1000) (hw : ∀ i, i < l.length → (Lit.int .i64 (nth l i)).wf = true) :
  Ow (lay w (.inl (.cells cs 3 (0, 0)) :: L)) (lay w L).heap.size (.slice (some ⟨posn w (shp L), 0, none⟩) l.length l.length) l := by
 rw [← lay_size w L]
 refine ⟨?_, hw⟩
 have := World.ownsRow_lit (base := (lay w L).heap.size) (e := 3) (size := 1) (lay w L) cs l.length (Nat.le_refl _) (by unfold maxLen; omega) (by rw [← Array.length_toList, hc]; simp)
 rw [hc] at this
 exact this
def notC (s : ByteArray) : Array Value := #[.int .i64 5, .int .i64 0, .int .i64 0, .int .i64 0, .int .i64 0, .int .i64 0, .int .i64 0, .int .i64 0, .int .i64 0, .int .i64 0, .int .i64 0, .string ⟨#[]⟩, .int .i64 0, .int .i64 0, .int .i64 0, .int .i64 0, .int .i64 0, .int .i64 0, .int .i64 0, .int .i64 0, .int .i64 0, .int .i64 0, .slice none 0 0, .string s]
def notV (s : ByteArray) : Value := .agg (notC s)
def notB (s : ByteArray) : List Int := ([5] ++ nbF [0, 0]) ++ ([(s.size : Int) / 256, (s.size : Int) % 256] ++ strN s)
set_option maxHeartbeats 4000000 in
set_option maxRecDepth 100000 in
theorem lg_encode (s : ByteArray) (hs : s.size ≤ 500) (w : World) :
  Calls Tryz.prog 74 #[notV s] w (RwB w (notB s)) := by
 have HS := Lib.hid hs
 unfold notV notC
 refine lay_start ?_
 go_enter Tryz.func74, Tryz.ntmps74
 go_wp2_with fail
 have hrow : OwG bR (lay w [.inl (.cells #[.int .i64 0, .int .i64 0] 3), .inl (.cells #[.slice (some ⟨posn w [1], 0, none⟩) 1 1] 223), .inl (.cells #[.int .u8 5] 5), .inl (.cells #[.int .i64 5, .int .i64 0, .int .i64 0, .int .i64 0, .int .i64 0, .int .i64 0, .int .i64 0, .int .i64 0, .int .i64 0, .int .i64 0, .int .i64 0, .string ⟨#[]⟩, .int .i64 0, .int .i64 0, .int .i64 0, .int .i64 0, .int .i64 0, .int .i64 0, .int .i64 0, .int .i64 0, .int .i64 0, .int .i64 0, .slice none 0 0, .string s] 78)]) w.heap.size (.slice (some ⟨posn w [1], 0, none⟩) 1 1) [5] :=
  ((owG_lit bOk (w := w) (L := [.inl (.cells #[.int .i64 5, .int .i64 0, .int .i64 0, .int .i64 0, .int .i64 0, .int .i64 0, .int .i64 0, .int .i64 0, .int .i64 0, .int .i64 0, .int .i64 0, .string ⟨#[]⟩, .int .i64 0, .int .i64 0, .int .i64 0, .int .i64 0, .int .i64 0, .int .i64 0, .int .i64 0, .int .i64 0, .int .i64 0, .int .i64 0, .slice none 0 0, .string s] 78)]) (cs := #[.int .u8 5]) [5] rfl (by decide) (fun x hx => by rw [List.mem_singleton.1 hx]; show (0 : Int) ≤ 5 ∧ (5 : Int) < 256; decide)).le (lay_extends w _).size).ext (lay_belowG (A := [_, _]) (B := [.inl (.cells #[.int .u8 5] 5), .inl (.cells #[.int .i64 5, .int .i64 0, .int .i64 0, .int .i64 0, .int .i64 0, .int .i64 0, .int .i64 0, .int .i64 0, .int .i64 0, .int .i64 0, .int .i64 0, .string ⟨#[]⟩, .int .i64 0, .int .i64 0, .int .i64 0, .int .i64 0, .int .i64 0, .int .i64 0, .int .i64 0, .int .i64 0, .int .i64 0, .int .i64 0, .slice none 0 0, .string s] 78)]))
 have hI : WrI w.heap.size (posn w [1, 1]) (.slice (some ⟨posn w [1], 0, none⟩) 1 1) [5] (lay w [.inl (.cells #[.int .i64 0, .int .i64 0] 3), .inl (.cells #[.slice (some ⟨posn w [1], 0, none⟩) 1 1] 223), .inl (.cells #[.int .u8 5] 5), .inl (.cells #[.int .i64 5, .int .i64 0, .int .i64 0, .int .i64 0, .int .i64 0, .int .i64 0, .int .i64 0, .int .i64 0, .int .i64 0, .int .i64 0, .int .i64 0, .string ⟨#[]⟩, .int .i64 0, .int .i64 0, .int .i64 0, .int .i64 0, .int .i64 0, .int .i64 0, .int .i64 0, .int .i64 0, .int .i64 0, .int .i64 0, .slice none 0 0, .string s] 78)]) := ⟨by unfold posn; omega, lay_get w [.inl (.cells #[.int .i64 0, .int .i64 0] 3), .inl (.cells #[.slice (some ⟨posn w [1], 0, none⟩) 1 1] 223), .inl (.cells #[.int .u8 5] 5), .inl (.cells #[.int .i64 5, .int .i64 0, .int .i64 0, .int .i64 0, .int .i64 0, .int .i64 0, .int .i64 0, .int .i64 0, .int .i64 0, .int .i64 0, .int .i64 0, .string ⟨#[]⟩, .int .i64 0, .int .i64 0, .int .i64 0, .int .i64 0, .int .i64 0, .int .i64 0, .int .i64 0, .int .i64 0, .int .i64 0, .int .i64 0, .slice none 0 0, .string s] 78)] 1 _ rfl, hrow⟩
 have hSl : Sl (lay w [.inl (.cells #[.int .i64 0, .int .i64 0] 3), .inl (.cells #[.slice (some ⟨posn w [1], 0, none⟩) 1 1] 223), .inl (.cells #[.int .u8 5] 5), .inl (.cells #[.int .i64 5, .int .i64 0, .int .i64 0, .int .i64 0, .int .i64 0, .int .i64 0, .int .i64 0, .int .i64 0, .int .i64 0, .int .i64 0, .int .i64 0, .string ⟨#[]⟩, .int .i64 0, .int .i64 0, .int .i64 0, .int .i64 0, .int .i64 0, .int .i64 0, .int .i64 0, .int .i64 0, .int .i64 0, .int .i64 0, .slice none 0 0, .string s] 78)]) (.slice (some ⟨posn w [1, 1, 1], 0, none⟩) 2 2) [0, 0] := (ow_litI (w := w) (L := [.inl (.cells #[.slice (some ⟨posn w [1], 0, none⟩) 1 1] 223), .inl (.cells #[.int .u8 5] 5), .inl (.cells #[.int .i64 5, .int .i64 0, .int .i64 0, .int .i64 0, .int .i64 0, .int .i64 0, .int .i64 0, .int .i64 0, .int .i64 0, .int .i64 0, .int .i64 0, .string ⟨#[]⟩, .int .i64 0, .int .i64 0, .int .i64 0, .int .i64 0, .int .i64 0, .int .i64 0, .int .i64 0, .int .i64 0, .int .i64 0, .int .i64 0, .slice none 0 0, .string s] 78)]) [0, 0] rfl (by decide) (by intro i hi; rcases i with _ | _ | i <;> first | decide | (simp at hi; omega))).sl
 have hN := lg_numbers w w.heap.size (posn w [1, 1]) _ [5] [0, 0] _ (lay w [.inl (.cells #[.int .i64 0, .int .i64 0] 3), .inl (.cells #[.slice (some ⟨posn w [1], 0, none⟩) 1 1] 223), .inl (.cells #[.int .u8 5] 5), .inl (.cells #[.int .i64 5, .int .i64 0, .int .i64 0, .int .i64 0, .int .i64 0, .int .i64 0, .int .i64 0, .int .i64 0, .int .i64 0, .int .i64 0, .int .i64 0, .string ⟨#[]⟩, .int .i64 0, .int .i64 0, .int .i64 0, .int .i64 0, .int .i64 0, .int .i64 0, .int .i64 0, .int .i64 0, .int .i64 0, .int .i64 0, .slice none 0 0, .string s] 78)]) (lay_extends w _) (Nat.le_refl _) (lay_extends w _).size hI (by decide) hSl (fun k hk => by
  have e : posn w [1, 1, 1] = k := by simpa [Value.ownBlock] using hk
  subst e
  refine ⟨fun cur f e2 => ?_, by unfold posn; simp⟩
  rw [show (lay w [.inl (.cells #[.int .i64 0, .int .i64 0] 3), .inl (.cells #[.slice (some ⟨posn w [1], 0, none⟩) 1 1] 223), .inl (.cells #[.int .u8 5] 5), .inl (.cells #[.int .i64 5, .int .i64 0, .int .i64 0, .int .i64 0, .int .i64 0, .int .i64 0, .int .i64 0, .int .i64 0, .int .i64 0, .int .i64 0, .int .i64 0, .string ⟨#[]⟩, .int .i64 0, .int .i64 0, .int .i64 0, .int .i64 0, .int .i64 0, .int .i64 0, .int .i64 0, .int .i64 0, .int .i64 0, .int .i64 0, .slice none 0 0, .string s] 78)]).heap[posn w [1, 1, 1]]? = _ from lay_get w [.inl (.cells #[.int .i64 0, .int .i64 0] 3), .inl (.cells #[.slice (some ⟨posn w [1], 0, none⟩) 1 1] 223), .inl (.cells #[.int .u8 5] 5), .inl (.cells #[.int .i64 5, .int .i64 0, .int .i64 0, .int .i64 0, .int .i64 0, .int .i64 0, .int .i64 0, .int .i64 0, .int .i64 0, .int .i64 0, .int .i64 0, .string ⟨#[]⟩, .int .i64 0, .int .i64 0, .int .i64 0, .int .i64 0, .int .i64 0, .int .i64 0, .int .i64 0, .int .i64 0, .int .i64 0, .int .i64 0, .slice none 0 0, .string s] 78)] 0 _ rfl] at e2
  simp at e2) (by decide)
 refine hN.mono ?_
 rintro e w1 ⟨rfl, v1, d1, hw1, h1, k1⟩
 have hbx : w1.heap[posn w []]? = some (.cells #[.int .i64 5, .int .i64 0, .int .i64 0, .int .i64 0, .int .i64 0, .int .i64 0, .int .i64 0, .int .i64 0, .int .i64 0, .int .i64 0, .int .i64 0, .string ⟨#[]⟩, .int .i64 0, .int .i64 0, .int .i64 0, .int .i64 0, .int .i64 0, .int .i64 0, .int .i64 0, .int .i64 0, .int .i64 0, .int .i64 0, .slice none 0 0, .string s] 78 (0, 0)) := by
  have hg := lay_get w [.inl (.cells #[.int .i64 0, .int .i64 0] 3), .inl (.cells #[.slice (some ⟨posn w [1], 0, none⟩) 1 1] 223), .inl (.cells #[.int .u8 5] 5), .inl (.cells #[.int .i64 5, .int .i64 0, .int .i64 0, .int .i64 0, .int .i64 0, .int .i64 0, .int .i64 0, .int .i64 0, .int .i64 0, .int .i64 0, .int .i64 0, .string ⟨#[]⟩, .int .i64 0, .int .i64 0, .int .i64 0, .int .i64 0, .int .i64 0, .int .i64 0, .int .i64 0, .int .i64 0, .int .i64 0, .int .i64 0, .slice none 0 0, .string s] 78)] 3 _ rfl
  refine (k1.kept _ (Array.getElem?_eq_some_iff.1 hg).1 (by unfold posn; simp [shp]) (fun cur f e2 => ?_)).trans hg
  rw [hg] at e2
  simp at e2
 have c0 : w1.cell? ⟨posn w [], 0, none⟩ = some (.int .i64 5) := by unfold World.cell?; dsimp only; rw [hbx]; rfl
 have c23 : w1.cell? ⟨posn w [], 23, none⟩ = some (.string s) := by unfold World.cell?; dsimp only; rw [hbx]; rfl
 have H1 := Lib.hid (And.intro h1 (And.intro k1 (And.intro hw1 hbx)))
 clear hN hSl hI hrow hbx h1 k1 hw1
 go_wp2_with fail
 refine (lg_str w w.heap.size (posn w [1, 1]) v1 ([5] ++ nbF [0, 0]) s w1 (by rw [H1.out.2.2.1]; exact bw_below w d1) (Nat.le_refl _) (by rw [H1.out.2.2.1]; exact bw_le w d1) H1.out.1 (by rw [List.length_append, nbF_len]; decide) (by have := HS.out; omega)).mono ?_
 rintro e w2 ⟨rfl, v2, d2, hw2, h2, k2⟩
 have hb2 : w2.heap[posn w []]? = w1.heap[posn w []]? := k2.kept _ (Array.getElem?_eq_some_iff.1 H1.out.2.2.2).1 (by unfold posn; simp) (fun cur f e2 => by
  rw [H1.out.2.2.2] at e2
  simp at e2)
 have c0' : w2.cell? ⟨posn w [], 0, none⟩ = some (.int .i64 5) := by unfold World.cell?; dsimp only; rw [hb2, H1.out.2.2.2]; rfl
 have cw := h2.cell
 obtain ⟨va, n2, vc, rfl⟩ : ∃ p q r, v2 = .slice p q r := by obtain ⟨p, r, e⟩ := h2.row.form; exact ⟨_, _, _, e⟩
 have H2 := Lib.hid (And.intro h2 hw2)
 clear h2 k2 hw2 hb2 c0 c23
 go_wp2_with fail
 exact bodyPost_ret (v := .slice va n2 vc) (by simp [results, Tryz.results74, go_sem]) rfl ⟨_, d2, rfl, H2.out.2, by rw [← H2.out.2]; exact H2.out.1.row⟩
def updR : List (Obj ⊕ Ext) → Nat → Array Value → List (Obj ⊕ Ext)
 | .inl (.cells _ t f) :: L, 0, vs => .inl (.cells vs t f) :: L
 | x :: L, n + 1, vs => x :: updR L n vs
 | L, _, _ => L
def isR : List (Obj ⊕ Ext) → Nat → Nat → Bool
 | .inl (.cells c _ f) :: _, 0, n => decide (c.size = n) && decide (f = (0, 0))
 | _ :: L, k + 1, n => isR L k n
 | _, _, _ => false
def rowR24 : List (Obj ⊕ Ext) → Nat → Array Value
 | .inl (.cells c _ _) :: _, 0 => c
 | _ :: L, n + 1 => rowR24 L n
 | _, _ => #[]
section
variable (x : Obj ⊕ Ext) (L : List (Obj ⊕ Ext)) (n k : Nat) (c vs : Array Value) (t : TypeId) (f : Nat × Nat)
@[go_sem] theorem updR_0 : updR (.inl (.cells c t f) :: L) 0 vs = .inl (.cells vs t f) :: L := by unfold updR; exact Eq.refl _
@[go_sem] theorem updR_s : updR (x :: L) (n + 1) vs = x :: updR L n vs := by cases x with | inl o => cases o <;> rfl | inr d => rfl
@[go_sem] theorem isR_0 : isR (.inl (.cells c t f) :: L) 0 n = (decide (c.size = n) && decide (f = (0, 0))) := by unfold isR; exact Eq.refl _
@[go_sem] theorem isR_s : isR (x :: L) (k + 1) n = isR L k n := by cases x with | inl o => cases o <;> rfl | inr d => rfl
@[go_sem] theorem rowR24_0 : rowR24 (.inl (.cells c t f) :: L) 0 = c := by unfold rowR24; exact Eq.refl _
@[go_sem] theorem rowR24_s : rowR24 (x :: L) (n + 1) = rowR24 L n := by cases x with | inl o => cases o <;> rfl | inr d => rfl
end
theorem isR_obj : ∀ (L : List (Obj ⊕ Ext)) (k n : Nat), isR L k n = true → ∃ t, objS L k = some (.cells (rowR24 L k) t (0, 0)) ∧ (rowR24 L k).size = n ∧ ∀ vs, updR L k vs = updR L k vs
 | [], k, n, h => by cases k <;> simp [isR] at h
 | .inl o :: L, 0, n, h => by
  cases o with
  | cells c t f =>
   rw [isR_0, Bool.and_eq_true, decide_eq_true_eq, decide_eq_true_eq] at h
   obtain ⟨h1, rfl⟩ := h
   exact ⟨t, rfl, h1, fun _ => rfl⟩
  | _ => simp [isR] at h
 | .inr d :: L, 0, n, h => by simp [isR] at h
 | x :: L, k + 1, n, h => by
  rw [isR_s] at h
  obtain ⟨t, h1, h2, _⟩ := isR_obj L k n h
  exact ⟨t, by rw [objS_s, rowR24_s]; exact h1, by rw [rowR24_s]; exact h2, fun _ => rfl⟩
theorem setRow_past {w : World} {o : Obj} {g : Nat} {vs : Array Value} (h : g < w.heap.size) : (w.alloc o).setRow g vs = (w.setRow g vs).alloc o := by
 unfold World.setRow World.alloc
 congr 1
 apply Array.ext_getElem?
 intro k
 rw [Array.getElem?_modify, Array.getElem?_push, Array.getElem?_push, Array.getElem?_modify, Array.size_modify]
 by_cases hk : g = k
 ·subst hk
  rw [if_pos rfl, if_neg (by omega), if_neg (by omega), if_pos rfl]
 ·rw [if_neg hk, if_neg hk]
theorem bw_setRow {w : World} {d : Ext} {g : Nat} {vs : Array Value} (h : g < w.heap.size) : (bw w d).setRow g vs = bw (w.setRow g vs) d := by
 unfold World.setRow bw
 congr 1
 apply Array.ext_getElem?
 intro k
 rw [Array.getElem?_modify, Array.getElem?_append, Array.getElem?_append, Array.getElem?_modify, Array.size_modify]
 by_cases hk : g = k
 ·subst hk
  simp [h]
 ·by_cases h2 : k < w.heap.size
  ·simp [hk, h2]
  ·simp [hk, h2]
theorem lay_setRow (w : World) (vs : Array Value) : ∀ (L : List (Obj ⊕ Ext)) (k n : Nat), isR L k n = true → (lay w L).setRow (posn w ((shp L).drop (k + 1))) vs = lay w (updR L k vs)
 | [], k, n, h => by cases k <;> simp [isR] at h
 | .inl o :: L, 0, n, h => by
  cases o with
  | cells c t f =>
   simp only [shp, List.drop_succ_cons, List.drop_zero, ← lay_size, lay, updR]
   unfold World.setRow World.alloc
   congr 1
   apply Array.ext_getElem?
   intro k
   rw [Array.getElem?_modify]
   by_cases hk : (lay w L).heap.size = k
   ·subst hk; simp
   ·have hk' : k ≠ (lay w L).heap.size := fun e => hk e.symm
    simp [hk, hk', Array.getElem?_push]
  | _ => simp [isR] at h
 | .inr d :: L, 0, n, h => by simp [isR] at h
 | x :: L, k + 1, n, h => by
  rw [isR_s] at h
  have ih := lay_setRow w vs L k n h
  obtain ⟨t, ho, -, -⟩ := isR_obj L k n h
  have hlt := (Array.getElem?_eq_some_iff.1 (lay_get w L k _ ho)).1
  rw [updR_s]
  cases x with
  | inl o' => simp only [shp, List.drop_succ_cons, lay]; rw [setRow_past hlt, ih]
  | inr d => simp only [shp, List.drop_succ_cons, lay]; rw [bw_setRow hlt, ih]
def stRec (a v : Value) : Sem Unit := Instr.storeAt 78 a v
def ldRec (a : Value) : Sem Value := Instr.loadAt 78 a
@[go_sem ↓] theorem st_rec_veil (a v : Value) : Instr.storeAt 78 a v = stRec a v := by unfold stRec; exact Eq.refl _
@[go_sem ↓] theorem ld_rec_veil (a : Value) : Instr.loadAt 78 a = ldRec a := by unfold ldRec; exact Eq.refl _
@[go_sem] theorem one_int (k : IntKind) (x : Int) : (Value.int k x).oneCell' = true := by unfold Value.oneCell'; exact Eq.refl _
@[go_sem] theorem one_str (s : ByteArray) : (Value.string s).oneCell' = true := by unfold Value.oneCell'; exact Eq.refl _
@[go_sem] theorem one_slice (a : Option Addr) (n c : Nat) : (Value.slice a n c).oneCell' = true := by unfold Value.oneCell'; exact Eq.refl _
theorem size_rec (W : World) : (sizeOf 78).run Tryz.prog W = .ok 24 W := by kernel_rfl
theorem agg_rec (W : World) : (isAgg 78).run Tryz.prog W = .ok true W := by kernel_rfl
@[go_sem] theorem st_rec (w : World) (L : List (Obj ⊕ Ext)) (p : List Nat) (vs : Array Value) (h2 : p.length < L.length) (h : (shp L).drop (L.length - p.length) = p) (h3 : isR L (L.length - p.length - 1) 24 = true) (hv : vs.size = 24) (h1 : vs.toList.all (fun v => v.oneCell') = true) :
  (stRec (.pointer (some ⟨posn w p, 0, none⟩)) (.agg vs)).run Tryz.prog (lay w L) = .ok () (lay w (updR L (L.length - p.length - 1) vs)) := by
 obtain ⟨t, ho, hs, -⟩ := isR_obj L _ _ h3
 have hg := lay_get w L _ _ ho
 rw [← depth_eq L p h h2] at hg
 have hr := lay_setRow w vs L _ _ h3
 rw [← depth_eq L p h h2] at hr
 have hst := run_storeCells_at Tryz.prog (posn w p) 0 t vs.toList 0 _ (lay w L) hg (by simp; omega) (fun v hv => List.all_eq_true.1 h1 v hv)
 unfold stRec Instr.storeAt storeVar
 have hcs : (Value.agg vs).cells = vs := rfl
 simp only [Instr.sureAddr, Sem.run_bind, Sem.run_pure, Result.andThen_ok, size_rec, hcs, hv]
 rw [if_neg (by decide), hst, Nat.add_zero, List.take_zero, List.nil_append, Nat.zero_add, List.drop_eq_nil_of_le (by simp; omega), List.append_nil, Array.toArray_toList, hr]
@[go_sem] theorem ld_rec (w : World) (L : List (Obj ⊕ Ext)) (p : List Nat) (h2 : p.length < L.length) (h : (shp L).drop (L.length - p.length) = p) (h3 : isR L (L.length - p.length - 1) 24 = true) :
  (ldRec (.pointer (some ⟨posn w p, 0, none⟩))).run Tryz.prog (lay w L) = .ok (.agg (rowR24 L (L.length - p.length - 1))) (lay w L) := by
 obtain ⟨t, ho, hs, -⟩ := isR_obj L _ _ h3
 have hg := lay_get w L _ _ ho
 rw [← depth_eq L p h h2] at hg
 have hld := run_loadCells_list (P := Tryz.prog) (lay w L) ⟨posn w p, 0, none⟩ (rowR24 L (L.length - p.length - 1)).toList (fun j v hj => by
  have hadd : (⟨posn w p, 0, none⟩ : Addr).add j = ⟨posn w p, j, none⟩ := by unfold Addr.add; split <;> simp_all
  rw [hadd]
  unfold World.cell?
  dsimp only
  rw [hg]
  simpa using hj)
 unfold ldRec Instr.loadAt loadVar
 rw [Array.length_toList, hs] at hld
 simp only [Instr.sureAddr, Sem.run_bind, Sem.run_pure, Result.andThen_ok, agg_rec, if_true, size_rec, hld, Array.toArray_toList]
def ldVRec (a : Addr) : Sem Value := loadVar 78 a
@[go_sem ↓] theorem ld_vrec_veil (a : Addr) : loadVar 78 a = ldVRec a := by unfold ldVRec; exact Eq.refl _
@[go_sem] theorem ld_vrec (w : World) (L : List (Obj ⊕ Ext)) (p : List Nat) (h2 : p.length < L.length) (h : (shp L).drop (L.length - p.length) = p) (h3 : isR L (L.length - p.length - 1) 24 = true) :
  (ldVRec ⟨posn w p, 0, none⟩).run Tryz.prog (lay w L) = .ok (.agg (rowR24 L (L.length - p.length - 1))) (lay w L) := by
 have e := ld_rec w L p h2 h h3
 unfold ldRec Instr.loadAt at e
 simp only [Instr.sureAddr, Sem.run_bind, Sem.run_pure, Result.andThen_ok] at e
 unfold ldVRec
 exact e
def stLst (a v : Value) : Sem Unit := Instr.storeAt 76 a v
theorem size_lst (W : World) : (sizeOf 76).run Tryz.prog W = .ok 1 W := by kernel_rfl
@[go_sem] theorem st_lst (w : World) (L : List (Obj ⊕ Ext)) (p : List Nat) (i : Nat) (a : Option Addr) (n c : Nat) (h2 : p.length < L.length) (h : (shp L).drop (L.length - p.length) = p) (h3 : isC L (L.length - p.length - 1) = true) (hc : (cellS L (L.length - p.length - 1) i).isSome = true) (hf : frozS L (L.length - p.length - 1) i = false) :
  (stLst (.pointer (some ⟨posn w p, i, none⟩)) (.slice a n c)).run Tryz.prog (lay w L) = .ok () (lay w (updS L (L.length - p.length - 1) i (.slice a n c))) := by
 obtain ⟨u, hu⟩ := Option.isSome_iff_exists.1 hc
 have e1 := lay_cell w L p i h2 h h3
 have e2 := lay_froz w L p i h2 h h3
 have e3 := lay_setCell w L p i (.slice a n c) h2 h h3
 rw [hu] at e1
 rw [hf] at e2
 have hA := e3
 unfold stLst
 generalize lay w L = W at *
 generalize lay w (updS L (L.length - p.length - 1) i (.slice a n c)) = W2 at *
 generalize posn w p = b at *
 unfold Instr.storeAt storeVar
 simp only [Instr.sureAddr, Sem.run_bind, Sem.run_pure, Result.andThen_ok, size_lst]
 simp [go_sem, e1, e2, e3]
theorem results_cell {fn : Func} {i : Tmp} {T : TypeId} {tmps : Array Value} {P : Program} {W : World} {addr : Addr} {v : Value} (h : fn.results = #[.cell i T]) (ht : tmps.getD i undef = .pointer (some addr)) (hl : (loadVar T addr).run P W = .ok v W) :
  (results fn tmps).run P W = .ok v W := by
 unfold results
 rw [h]
 have e2 : asAddr (.pointer (some addr)) = pure addr := rfl
 have hm : ∀ g : ResultVar → Sem Value, Array.mapM g #[ResultVar.cell i T] = (do let x ← g (.cell i T); pure #[x]) := fun g => by simp
 rw [hm]
 dsimp only
 rw [ht, e2]
 simp only [Sem.run_bind, Sem.run_pure, Result.andThen_ok, hl]
 rfl
end Go.Proofs.YtcbicpbbjbkiaaaGreatDoor
namespace Go.Proofs.YtcbicpbbjbkiaaaGreatDoor
set_option maxHeartbeats 400000
open Go.RowKit

def fitsB (n : Int) : Bool := decide (-1099511627776 ≤ n ∧ n ≤ 1099511627776)
theorem fits_yes {n : Int} (h1 : -1099511627776 ≤ n) : decide (n ≤ 1099511627776) = fitsB n := by
 unfold fitsB; simp [h1]
theorem fits_no {n : Int} (h1 : n < -1099511627776) : false = fitsB n := by
 unfold fitsB; simp; omega
def validB (lo hi : Int) : Bool := decide (lo ≤ hi ∧ -1099511627776 ≤ lo ∧ hi ≤ 1099511627776)
theorem validB_iff {lo hi : Int} : validB lo hi = true ↔ lo ≤ hi ∧ -1099511627776 ≤ lo ∧ hi ≤ 1099511627776 := by simp [validB]
theorem validB_eq {lo hi : Int} : validB lo hi = (decide (lo ≤ hi) && fitsB lo && fitsB hi) := by
 rw [Bool.eq_iff_iff]; simp [validB, fitsB]; omega
theorem angle_fits (n : Int) (w : World) :
  Calls Tryz.prog 53 #[.int .i64 n] w fun e w' => e = .returned (.bool (fitsB n)) ∧ w' = w := by
 go_enter Tryz.func53, Tryz.ntmps53
 go_wp2
 ·go_ret
  exact ⟨ret_bool (fits_yes ‹_›), rfl⟩
 ·go_ret
  exact ⟨ret_bool (fits_no ‹_›), rfl⟩
theorem valid_ways1 {lo hi : Int} (h : lo ≤ hi) (h2 : fitsB lo = true) : fitsB hi = validB lo hi := by simp [validB_eq, *]
theorem valid_ways2 {lo hi : Int} (h2 : ¬ fitsB lo = true) : false = validB lo hi := by simp [validB_eq, *]
theorem valid_ways3 {lo hi : Int} (h2 : hi < lo) : false = validB lo hi := by
 have : ¬ lo ≤ hi := by omega
 simp [validB_eq, *]
theorem angle_Valid (lo hi : Int) (w : World) :
  Calls Tryz.prog 38 #[(.agg #[.int .i64 (lo), .int .i64 (hi)])] w fun e w' => e = .returned (.bool (validB lo hi)) ∧ ∃ d, w' = bw w d := by
 refine lay_start ?_
 go_enter Tryz.func38, Tryz.ntmps38
 go_wp2_with (go_at_call 53; refine (angle_fits _ _).mono ?_; rintro e w' ⟨rfl, rfl⟩)
 all_goals go_ret
 all_goals exact ⟨ret_bool (by first | exact valid_ways1 ‹_› ‹_› | exact valid_ways2 ‹_› | exact valid_ways3 ‹_›), lay_ex _ _⟩
theorem ref05_Valid (lo hi : Int) (w : World) :
  Calls Tryz.prog 37 #[(.agg #[.int .i64 (lo), .int .i64 (hi)])] w fun e w' => e = .returned (.bool (validB lo hi)) ∧ ∃ d, w' = bw w d := by
 refine lay_start ?_
 go_enter Tryz.func37, Tryz.ntmps37
 go_wp2
 all_goals go_ret
 all_goals exact ⟨ret_bool (by rw [Bool.eq_iff_iff]; simp [validB]; omega), lay_ex _ _⟩
theorem angle_Wrap (n : Int) (w : World) :
  Calls Tryz.prog 109 #[.int .i64 n] w fun e w' => e = .returned (.int .i64 (n % 21600000)) ∧ w' = w := by
 have hb := tmod_bd n 21600000 (by decide)
 go_enter Tryz.func109, Tryz.ntmps109
 go_wp2
 ·go_ret
  exact ⟨ret_int ((tmod_wrap n 21600000 (by decide)).1 ‹_›), rfl⟩
 ·go_ret
  exact ⟨ret_int ((tmod_wrap n 21600000 (by decide)).2 ‹_›), rfl⟩

def mn (x y : Int) : Int := if y < x then y else x
def mx (x y : Int) : Int := if x < y then y else x
theorem mn_eq (x y : Int) : mn x y = min x y := by unfold mn; split <;> omega
theorem mx_eq (x y : Int) : mx x y = max x y := by unfold mx; split <;> omega
section
variable {P : Program} {w : World}
theorem run_mn (ts : Array TypeId) (t : TypeId) (k k' : IntKind) (x y : Int) : (Builtin.min_ ts t #[.int k x, .int k' y]).run P w = .ok (.int k (mn x y)) w := run_min_int2 w ts t k k' x y
theorem run_mx (ts : Array TypeId) (t : TypeId) (k k' : IntKind) (x y : Int) : (Builtin.max_ ts t #[.int k x, .int k' y]).run P w = .ok (.int k (mx x y)) w := run_max_int2 w ts t k k' x y
end
attribute [go_sem ↓] run_mn run_mx

def insideB (x0 y0 x1 y1 : Int) : Bool := decide (x1 ≤ x0 ∧ y0 ≤ y1)
def inside2B (x0 y0 x1 y1 : Int) : Bool := validB x0 y0 && validB x1 y1 && insideB x0 y0 x1 y1
theorem inside2B_iff {x0 y0 x1 y1 : Int} : inside2B x0 y0 x1 y1 = true ↔ validB x0 y0 = true ∧ validB x1 y1 = true ∧ x1 ≤ x0 ∧ y0 ≤ y1 := by simp [inside2B, insideB, and_assoc]
theorem inside_1 {x0 y0 x1 y1 : Int} (h1 : validB x0 y0 = true) (h2 : validB x1 y1 = true) (h3 : x1 ≤ x0) : decide (y0 ≤ y1) = inside2B x0 y0 x1 y1 := by simp [inside2B, insideB, *]
theorem inside_2 {x0 y0 x1 y1 : Int} (h3 : x0 < x1) : false = inside2B x0 y0 x1 y1 := by
 have : ¬ x1 ≤ x0 := by omega
 simp [inside2B, insideB, *]
theorem inside_3 {x0 y0 x1 y1 : Int} (h1 : ¬ validB x1 y1 = true) : false = inside2B x0 y0 x1 y1 := by simp [inside2B, insideB, *]
theorem inside_4 {x0 y0 x1 y1 : Int} (h1 : ¬ validB x0 y0 = true) : false = inside2B x0 y0 x1 y1 := by simp [inside2B, insideB, *]
theorem angle_Inside (x0 y0 x1 y1 : Int) (w : World) :
  Calls Tryz.prog 30 #[(.agg #[.int .i64 (x0), .int .i64 (y0)]), (.agg #[.int .i64 (x1), .int .i64 (y1)])] w fun e w' => e = .returned (.bool (inside2B x0 y0 x1 y1)) ∧ ∃ d, w' = bw w d := by
 refine lay_start ?_
 go_enter Tryz.func30, Tryz.ntmps30
 go_wp2_with (go_at_call 38; refine (angle_Valid _ _ _).mono ?_; rintro e w' ⟨rfl, d, rfl⟩)
 all_goals go_ret
 all_goals exact ⟨ret_bool (by first | exact inside_1 ‹_› ‹_› ‹_› | exact inside_2 ‹_› | exact inside_3 ‹_› | exact inside_4 ‹_›), lay_ex _ _⟩
end Go.Proofs.YtcbicpbbjbkiaaaGreatDoor
namespace Go.Proofs.YtcbicpbbjbkiaaaGreatDoor
set_option maxHeartbeats 400000
open Go.RowKit

def insB (t : Int) : Bool := decide (-70368744177664 ≤ t ∧ t ≤ 70368744177664)
def timB (a b : Int) : Bool := decide (a ≤ b) && insB a && insB b
theorem timB_iff {a b : Int} : timB a b = true ↔ a ≤ b ∧ -70368744177664 ≤ a ∧ b ≤ 70368744177664 := by
 unfold timB insB
 simp only [Bool.and_eq_true, decide_eq_true_eq]
 omega
theorem clock_instant (t : Int) (w : World) :
  Calls Tryz.prog 212 #[.int .i64 t] w fun e w' => e = .returned (.bool (insB t)) ∧ w' = w := by
 go_enter Tryz.func212, Tryz.ntmps212
 go_wp2_with fail
 all_goals go_ret
 all_goals exact ⟨ret_bool (by unfold insB; rw [Bool.eq_iff_iff]; simp; try omega), rfl⟩
theorem clock_Valid (a b : Int) (w : World) :
  Calls Tryz.prog 132 #[(.agg #[.int .i64 (a), .int .i64 (b)])] w fun e w' => e = .returned (.bool (timB a b)) ∧ ∃ d, w' = bw w d := by
 refine lay_start ?_
 have c1 := fun w => clock_instant a w
 have c2 := fun w => clock_instant b w
 unfold timB
 generalize insB a = A at *
 generalize insB b = B at *
 go_enter Tryz.func132, Tryz.ntmps132
 by_cases h : a ≤ b
 ·cases A
  ·go_wp2_with (go_at_call 212; first | (with_reducible refine (c1 _).mono ?_; rintro e w' ⟨rfl, rfl⟩) | (with_reducible refine (c2 _).mono ?_; rintro e w' ⟨rfl, rfl⟩))
   all_goals go_ret
   all_goals exact ⟨ret_bool (by simp [h]), lay_ex _ _⟩
  ·go_wp2_with (go_at_call 212; first | (with_reducible refine (c1 _).mono ?_; rintro e w' ⟨rfl, rfl⟩) | (with_reducible refine (c2 _).mono ?_; rintro e w' ⟨rfl, rfl⟩))
   all_goals go_ret
   all_goals exact ⟨ret_bool (by simp [h]), lay_ex _ _⟩
 ·go_wp2_with (go_at_call 212; first | (with_reducible refine (c1 _).mono ?_; rintro e w' ⟨rfl, rfl⟩) | (with_reducible refine (c2 _).mono ?_; rintro e w' ⟨rfl, rfl⟩))
  all_goals go_ret
  all_goals exact ⟨ret_bool (by simp; intros; omega), lay_ex _ _⟩
set_option maxHeartbeats 2000000
set_option maxRecDepth 100000
open Go.RowKit

theorem lg_text_x (w : World) : Calls Tryz.prog 134 #[.string ⟨#[120]⟩] w fun e w' => e = .returned (.bool true) ∧ w' = w := by
 go_enter Tryz.func134, Tryz.ntmps134
 go_wp2_with fail
 go_loop [3, 6] (fun _ v6 => ∃ i : Nat, i ≤ 1 ∧ v6 = .int .i64 (i : Int)) (fun _ v6 => 1 - (intOf v6).toNat)
 case atStart => exact ⟨0, by decide, rfl⟩
 case round =>
  obtain ⟨i, hi, rfl⟩ := hrel
  have hor : i = 0 ∨ i = 1 := by omega
  rcases hor with rfl | rfl
  ·go_wp2_with fail
   exact ⟨⟨1, by decide, rfl⟩, by simp [intOf]⟩
  ·go_wp2_with fail
   exact bodyPost_ret (v := .bool true) (by simp [results, Tryz.results134, go_sem]) rfl ⟨rfl, rfl⟩
theorem lg_same_x (w : World) : Calls Tryz.prog 135 #[notV ⟨#[120]⟩, notV ⟨#[120]⟩] w fun e w' => e = .returned (.bool true) ∧ ∃ d, w' = bw w d := by
 have HE := Lib.hid (fun L => sl_Equal (.slice none 0 0) (.slice none 0 0) [] [] (lay w L) (Sl.nil _) (Sl.nil _))
 unfold notV notC
 refine lay_start ?_
 go_enter Tryz.func135, Tryz.ntmps135
 go_wp2_with fail
 refine (HE.out _).mono ?_
 rintro e w' ⟨rfl, d1, rfl⟩
 rw [lay_bw]
 go_wp2_with fail
 exact bodyPost_ret (v := .bool true) (by simp [results, Tryz.results135, go_sem]) rfl ⟨rfl, lay_ex _ _⟩
theorem lg_tim0 : timB 0 0 = true := timB_iff.2 ⟨Int.le_refl _, by decide, by decide⟩
theorem lg_copied_x (w : World) : Calls Tryz.prog 71 #[notV ⟨#[120]⟩] w fun e w' => e = .returned (notV ⟨#[120]⟩) ∧ ∃ d, w' = bw w d := by
 have HC := Lib.hid (fun W => Tryz.slices_Clone_int_nil 0 0 W)
 unfold notV notC at *
 refine lay_start ?_
 go_enter Tryz.func71, Tryz.ntmps71
 go_wp2_with (go_at_call 124; refine (HC.out _).mono ?_; rintro e w' ⟨rfl, rfl⟩)
 refine bodyPost_ret (v := notV ⟨#[120]⟩) (results_cell rfl rfl ?_) rfl ⟨rfl, lay_ex _ _⟩
 rw [ld_vrec_veil]
 refine (ld_vrec w _ [1] ?_ ?_ ?_).trans ?_
 ·exact Nat.lt_of_sub_eq_succ rfl
 ·rfl
 ·rfl
 ·rfl
end Go.Proofs.YtcbicpbbjbkiaaaGreatDoor
namespace Go.Proofs.YtcbicpbbjbkiaaaGreatDoor
open Go.RowKit

set_option maxHeartbeats 2000000 in
set_option maxRecDepth 100000 in
theorem lg_ValidRecord_x (w : World) : Calls Tryz.prog 68 #[notV ⟨#[120]⟩] w fun e w' => e = .returned (.bool true) ∧ ∃ d, w' = bw w d := by
 have HT := Lib.hid (fun W => lg_text_x W)
 have HS := Lib.hid (fun W => lg_same_x W)
 have HC := Lib.hid (fun W => clock_Valid 0 0 W)
 rw [show timB 0 0 = true from lg_tim0] at HC
 unfold notV notC at *
 refine lay_start ?_
 go_enter Tryz.func68, Tryz.ntmps68
 go_wp2_with (first | (go_at_call 132; refine (HC.out _).mono ?_; rintro e w' ⟨rfl, d1, rfl⟩; rw [lay_bw]) | (go_at_call 134; refine (HT.out _).mono ?_; rintro e w' ⟨rfl, rfl⟩) | (go_at_call 135; refine (HS.out _).mono ?_; rintro e w' ⟨rfl, d2, rfl⟩; rw [lay_bw]))
 exact bodyPost_ret (v := .bool true) (by simp [results, Tryz.results68, go_sem]) rfl ⟨rfl, lay_ex _ _⟩
end Go.Proofs.YtcbicpbbjbkiaaaGreatDoor
namespace Go.Proofs.YtcbicpbbjbkiaaaGreatDoor
open Go.Lib

theorem dec_small {u : Nat} (h : u < 10) : decDigits u = [UInt8.ofNat (48 + u)] := by rw [decDigits, dif_pos h]
theorem dec_big {u : Nat} (h : ¬ u < 10) : decDigits u = decDigits (u / 10) ++ [UInt8.ofNat (48 + u % 10)] := by rw [decDigits, dif_neg h]
theorem u8_dig {k : Nat} (h : k < 10) : (UInt8.ofNat (48 + k)).toNat = 48 + k := by
 rw [UInt8.toNat_ofNat']; omega
def IsDg (c : UInt8) : Prop := 48 ≤ c.toNat ∧ c.toNat ≤ 57
theorem dec_dig (u : Nat) : ∀ c ∈ decDigits u, IsDg c := by
 induction u using Nat.strongRecOn with
 | _ u ih =>
  by_cases h : u < 10
  ·rw [dec_small h]
   intro c hc
   rw [List.mem_singleton.1 hc]
   unfold IsDg
   rw [u8_dig h]; omega
  ·rw [dec_big h]
   intro c hc
   rcases List.mem_append.1 hc with hc | hc
   ·exact ih (u / 10) (by omega) c hc
   ·rw [List.mem_singleton.1 hc]
    unfold IsDg
    rw [u8_dig (by omega)]; omega
theorem dec_ne (u : Nat) : decDigits u ≠ [] := by
 by_cases h : u < 10
 ·rw [dec_small h]; simp
 ·rw [dec_big h]; simp
theorem dec_head (u : Nat) (h : 1 ≤ u) : ∃ c t, decDigits u = c :: t ∧ c.toNat ≠ 48 := by
 induction u using Nat.strongRecOn with
 | _ u ih =>
  by_cases hu : u < 10
  ·exact ⟨_, [], dec_small hu, by rw [u8_dig hu]; omega⟩
  ·obtain ⟨c, t, e, hc⟩ := ih (u / 10) (by omega) (by omega)
   exact ⟨c, t ++ [UInt8.ofNat (48 + u % 10)], by rw [dec_big hu, e]; rfl, hc⟩
def digL : Nat → List UInt8 → Option Nat
 | n, [] => some n
 | n, c :: t => if 48 ≤ c.toNat ∧ c.toNat ≤ 57 then digL (min (10 * n + (c.toNat - 48)) 1125899906842624) t else none
theorem digL_s (n : Nat) (c : UInt8) (t : List UInt8) : digL n (c :: t) = if 48 ≤ c.toNat ∧ c.toNat ≤ 57 then digL (min (10 * n + (c.toNat - 48)) 1125899906842624) t else none := rfl
theorem digL_app (b : List UInt8) : ∀ (a : List UInt8) (n : Nat), digL n (a ++ b) = (digL n a).bind (fun m => digL m b)
 | [], n => rfl
 | c :: t, n => by
  show digL n (c :: (t ++ b)) = _
  rw [digL_s, digL_s]
  split
  ·exact digL_app b t _
  ·rfl
theorem digL_one {n k : Nat} (hk : k < 10) (h : 10 * n + k ≤ 1125899906842624) : digL n [UInt8.ofNat (48 + k)] = some (10 * n + k) := by
 unfold digL
 rw [u8_dig hk, if_pos (by omega)]
 unfold digL
 rw [show min (10 * n + (48 + k - 48)) 1125899906842624 = 10 * n + k by omega]
theorem digL_dec {u : Nat} (h : u ≤ 1125899906842624) : digL 0 (decDigits u) = some u := by
 induction u using Nat.strongRecOn with
 | _ u ih =>
  by_cases hu : u < 10
  ·rw [dec_small hu, digL_one hu (by omega)]
   simp
  ·rw [dec_big hu, digL_app, ih (u / 10) (by omega) (by omega)]
   show digL (u / 10) _ = _
   rw [digL_one (by omega) (by omega)]
   congr 1
   omega
def padL (n d : Nat) : List UInt8 := List.replicate (d - (decDigits n).length) 48 ++ decDigits n
theorem padL_dig (n d : Nat) : ∀ c ∈ padL n d, IsDg c := by
 intro c hc
 rcases List.mem_append.1 hc with hc | hc
 ·rw [(List.mem_replicate.1 hc).2]; exact ⟨by decide, by decide⟩
 ·exact dec_dig n c hc
theorem digL_zeros (l : List UInt8) : ∀ k, digL 0 (List.replicate k 48 ++ l) = digL 0 l
 | 0 => rfl
 | k + 1 => by
  show digL 0 (48 :: (List.replicate k 48 ++ l)) = _
  rw [digL_s, if_pos ⟨by decide, by decide⟩]
  exact digL_zeros l k
theorem digL_pad {n d : Nat} (h : n ≤ 1125899906842624) : digL 0 (padL n d) = some n := by
 unfold padL
 rw [digL_zeros, digL_dec h]
theorem dec_len2 {n : Nat} (h : n < 100) : (decDigits n).length ≤ 2 := by
 by_cases h1 : n < 10
 ·rw [dec_small h1]; simp
 ·rw [dec_big h1, dec_small (by omega)]; simp
theorem pad2_len {n : Nat} (h : n < 100) : (padL n 2).length = 2 := by
 have := dec_len2 h
 unfold padL
 rw [List.length_append, List.length_replicate]; omega
theorem occ_no {a b : List UInt8} {c : UInt8} {t : List UInt8} (h : ∀ x ∈ a, x ≠ c) {j : Nat} (hj : j < a.length) : occAt (a ++ b) (c :: t) j = false := by
 cases e : occAt (a ++ b) (c :: t) j
 ·rfl
 ·have := occAt_head rfl e
  rw [List.getElem?_append_left hj, List.getElem?_eq_getElem hj] at this
  exact absurd (Option.some.inj this) (h _ (List.getElem_mem hj))
theorem cut_at {a b : List UInt8} {c : UInt8} {t : List UInt8} (h : ∀ x ∈ a, x ≠ c) : cut (a ++ ((c :: t) ++ b)) (c :: t) = (a, b, true) := by
 have e : index (a ++ ((c :: t) ++ b)) (c :: t) = (a.length : Int) := by
  refine index_first (by simp) ?_ (fun j hj => occ_no h hj)
  unfold occAt
  rw [List.drop_left]
  simp
 unfold cut
 rw [e, if_pos (by omega)]
 simp
theorem cut_no {a : List UInt8} {c : UInt8} {t : List UInt8} (h : ∀ x ∈ a, x ≠ c) : cut a (c :: t) = (a, [], false) := by
 have e : index a (c :: t) = -1 := by
  refine index_none (fun j hj => ?_)
  rcases Nat.lt_or_ge j a.length with g | g
  ·have := occ_no (b := []) (t := t) h g
   rw [List.append_nil] at this
   exact this
  ·obtain rfl : j = a.length := by omega
   unfold occAt
   simp
 unfold cut
 rw [e, if_neg (by decide)]
def absL (n : Nat) : List UInt8 := decDigits (n / 60000) ++ 45 :: (padL (n % 60000 / 1000) 2 ++ 46 :: (if n % 1000 % 100 = 0 then decDigits (n % 1000 / 100) else padL (n % 1000) 3))
def txtL (n : Int) : List UInt8 := (if n < 0 then [45] else []) ++ absL n.natAbs
theorem txt_neg {n : Int} (h : n < 0) : txtL n = 45 :: absL n.natAbs := by unfold txtL; rw [if_pos h]; rfl
theorem txt_nn {n : Int} (h : 0 ≤ n) : txtL n = absL n.natAbs := by unfold txtL; rw [if_neg (by omega)]; rfl
theorem dg_ne {c x : UInt8} (h : IsDg c) (hx : x.toNat < 48 ∨ 57 < x.toNat) : c ≠ x := fun e => by
 subst e; unfold IsDg at h; omega
theorem abs_signs (n : Nat) : ∀ c ∈ absL n, IsDg c ∨ c = 45 ∨ c = 46 := by
 intro c hc
 unfold absL at hc
 rcases List.mem_append.1 hc with hc | hc
 ·exact .inl (dec_dig _ c hc)
 ·rcases List.mem_cons.1 hc with hc | hc
  ·exact .inr (.inl hc)
  ·rcases List.mem_append.1 hc with hc | hc
   ·exact .inl (padL_dig _ _ c hc)
   ·rcases List.mem_cons.1 hc with hc | hc
    ·exact .inr (.inr hc)
    ·split at hc
     ·exact .inl (dec_dig _ c hc)
     ·exact .inl (padL_dig _ _ c hc)
theorem txt_signs (n : Int) : ∀ c ∈ txtL n, IsDg c ∨ c = 45 ∨ c = 46 := by
 intro c hc
 unfold txtL at hc
 rcases List.mem_append.1 hc with hc | hc
 ·split at hc
  ·rw [List.mem_singleton.1 hc]; exact .inr (.inl rfl)
  ·exact absurd hc List.not_mem_nil
 ·exact abs_signs _ c hc
theorem txt_noSpace (n : Int) : ∀ c ∈ txtL n, c ≠ 32 := by
 intro c hc
 rcases txt_signs n c hc with h | rfl | rfl
 ·exact dg_ne h (by decide)
 ·decide
 ·decide
theorem txt_noSemi (n : Int) : ∀ c ∈ txtL n, c ≠ 59 := by
 intro c hc
 rcases txt_signs n c hc with h | rfl | rfl
 ·exact dg_ne h (by decide)
 ·decide
 ·decide
end Go.Proofs.YtcbicpbbjbkiaaaGreatDoor
namespace Go.Proofs.YtcbicpbbjbkiaaaGreatDoor
set_option maxHeartbeats 2000000
set_option maxRecDepth 100000
open Go.RowKit Go.Shelf

theorem sizeBd : (Tryz.prog.info? 163).map (·.size) = some 2 := by kernel_rfl
theorem liesBd : liesAt Tryz.prog Tryz.prog.depth 163 (2 / Tryz.prog.cellsOf 163) 0 163 1 = true := by kernel_rfl
theorem infoBd : (Tryz.prog.info? 5).map (fun i => (i.zero, i.size, i.bytes)) = some (some (.int .u8 0), 1, 1) := by kernel_rfl
theorem bd_copyCheck_used (b : Nat) (w : World) (h0 : w.cell? ⟨b, 0, none⟩ = some (.pointer (some ⟨b, 0, none⟩))) :
  Calls Tryz.prog 154 #[.pointer (some ⟨b, 0, none⟩)] w fun e w' => e = .returned (.tuple #[]) ∧ w' = w := by
 obtain ⟨j, hj, _⟩ := Option.map_eq_some_iff.1 sizeBd
 go_enter Tryz.func154, Tryz.ntmps154
 go_wp2
 rw [Lib.run_neq_ptr_same w _ Tryz.underlying161 hj]
 go_wp2
 go_end0
 exact ⟨rfl, rfl⟩
theorem bd_copyCheck_fresh (b : Nat) (w : World) (h0 : w.cell? ⟨b, 0, none⟩ = some (.pointer none)) (hsh : w.shape? b = some (163, 2)) (hfz : w.frozen? ⟨b, 0, none⟩ = false) :
  Calls Tryz.prog 154 #[.pointer (some ⟨b, 0, none⟩)] w fun e w' => e = .returned (.tuple #[]) ∧ w' = w.setCell ⟨b, 0, none⟩ (.pointer (some ⟨b, 0, none⟩)) := by
 obtain ⟨j, hj, hjs⟩ := Option.map_eq_some_iff.1 sizeBd
 go_enter Tryz.func154, Tryz.ntmps154
 go_wp2
 rw [Lib.run_to_unsafe w ⟨b, 0, none⟩ Tryz.underlying161 Tryz.underlying282 hj (by rw [hjs]; decide) hsh (Nat.zero_lt_succ 1)]
 simp only [Result.andThen]
 rw [Oper.upon_value]
 go_wp2
 rw [run_callFunc_extern Tryz.func229 (by kernel_rfl) (by kernel_rfl) (by kernel_rfl) (e := Extern.AbiNoEscape.same) (by kernel_rfl)]
 rw [Lib.run_noEscape]
 simp only [Result.andThen]
 rw [Oper.upon_value]
 go_wp2
 rw [Lib.run_from_unsafe w ⟨b, 0, none⟩ Tryz.underlying282 Tryz.underlying161 hj hsh liesBd]
 simp only [Result.andThen]
 rw [Oper.upon_value]
 go_wp2
 go_end0
 exact ⟨rfl, rfl⟩
theorem bd_copyCheck (B b : Nat) (bs : List Value) (w : World) (h : Lib.IsBuilder 163 5 B b bs w) :
  Calls Tryz.prog 154 #[.pointer (some ⟨b, 0, none⟩)] w fun e w' => e = .returned (.tuple #[]) ∧ (Lib.BuilderAt 163 5 B b (.pointer (some ⟨b, 0, none⟩)) bs w' ∧ Below B w w') := by
 rcases h with h | h
 ·refine (bd_copyCheck_fresh b w h.cell0 h.shape h.frozen0).mono ?_
  rintro e w' ⟨rfl, rfl⟩
  exact ⟨rfl, h.used _, (Below.refl B w).setCell (p := ⟨b, 0, none⟩) h.1 _⟩
 ·refine (bd_copyCheck_used b w h.cell0).mono ?_
  rintro e w' ⟨rfl, rfl⟩
  exact ⟨rfl, h, Below.refl B _⟩
theorem bd_WriteByte (B b : Nat) (bs : List Value) (c : Int) (w : World) (h : Lib.IsBuilder 163 5 B b bs w) (hlen : bs.length + 1 ≤ 140737488355328) (hBw : B ≤ w.heap.size) :
  Calls Tryz.prog 115 #[.pointer (some ⟨b, 0, none⟩), .int .u8 c] w fun e w' => e = .returned .nilIface ∧ (Lib.BuilderAt 163 5 B b (.pointer (some ⟨b, 0, none⟩)) (bs ++ [.int .u8 c]) w' ∧ Below B w w') := by
 obtain ⟨i0, hi, hz0, hz1, hz2⟩ := info_parts infoBd
 go_enter Tryz.func115, Tryz.ntmps115
 go_wp2_with (go_at_call 154; refine (bd_copyCheck B b bs _ h).mono ?_)
 rintro e w1 ⟨rfl, h1, hb1⟩
 obtain ⟨hB, v, hbk, hown, hne⟩ := h1
 have c0 : w1.cell? ⟨b, 0, none⟩ = some (.pointer (some ⟨b, 0, none⟩)) := by rw [Lib.cell_of_heap hbk]; rfl
 have c1 : w1.cell? ⟨b, 1, none⟩ = some v := by rw [Lib.cell_of_heap hbk]; rfl
 go_wp2_with (at_builtin; refine wpList_append_own _ rfl _ _ 68 rfl B 5 i0 (.int .u8 0) 1 1 Tryz.underlying68 hi hz0 hz1 hz2 rfl (by decide) _ _ _ rfl (hown.alloc _) ⟨w1.heap.size, 0, none⟩ 1 1 [.int .u8 c] rfl rfl ?c1 ?c2 ?c3 ?c4 ?c5 ?_)
 case c1 =>
  intro j u hj
  match j, hj with
  | 0, hj => simp at hj; subst hj; simp [Addr.add]
 case c2 => intro u hu; simp at hu; subst hu; rfl
 case c3 => unfold maxLen; omega
 case c4 => omega
 case c5 => have := hb1.size; simp; omega
 intro v' w2 hown' hgrow _
 have hlt : b < w1.heap.size := by
  rcases Nat.lt_or_ge b w1.heap.size with h' | h'
  ·exact h'
  ·simp [Array.getElem?_eq_none h'] at hbk
 have hb2 : w2.heap[b]? = some (.cells #[.pointer (some ⟨b, 0, none⟩), v] 163 (0, 0)) := by
  rw [hgrow.block b (by simp; omega) (fun e => hne e.symm), Lib.alloc_old w1 _ b hlt]
  exact hbk
 have d0 : w2.cell? ⟨b, 0, none⟩ = some (.pointer (some ⟨b, 0, none⟩)) := by rw [Lib.cell_of_heap hb2]; rfl
 have d1 : w2.cell? ⟨b, 1, none⟩ = some v := by rw [Lib.cell_of_heap hb2]; rfl
 have f1 : w2.frozen? ⟨b, 1, none⟩ = false := Lib.frozen_of_heap hb2 1
 obtain ⟨g, cap, rfl⟩ : ∃ g cap, v' = .slice (some ⟨g, 0, none⟩) (bs.length + 1) cap := by
  rcases hown'.2 with ⟨_, h0⟩ | ⟨g, cap, cur, hv, _⟩
  ·omega
  ·exact ⟨g, cap, hv⟩
 go_wp2
 go_ret
 refine ⟨rfl, ?_, ?_⟩
 ·exact Lib.BuilderAt.put (T := 163) (e := 5) hB hb2 (bs' := bs ++ [.int .u8 c]) (by simpa using hown') (by decide)
 ·exact ((hb1.alloc (by have := hb1.size; omega) _).grown hgrow (by have := hb1.size; simp; omega) (fun k hk => (hown.lt k hk).1)).setCell (p := ⟨b, 1, none⟩) hB _
theorem bd_WriteString (B b : Nat) (bs : List Value) (s : ByteArray) (w : World) (h : Lib.IsBuilder 163 5 B b bs w) (hlen : bs.length + s.size ≤ 140737488355328) (hBw : B ≤ w.heap.size) :
  Calls Tryz.prog 79 #[.pointer (some ⟨b, 0, none⟩), .string s] w fun e w' => e = .returned (.tuple #[.int .i64 s.size, .nilIface]) ∧ (Lib.BuilderAt 163 5 B b (.pointer (some ⟨b, 0, none⟩)) (bs ++ Lib.strCells s) w' ∧ Below B w w') := by
 obtain ⟨i0, hi, hz0, hz1, hz2⟩ := info_parts infoBd
 go_enter Tryz.func79, Tryz.ntmps79
 go_wp2_with (go_at_call 154; refine (bd_copyCheck B b bs _ h).mono ?_)
 rintro e w1 ⟨rfl, h1, hb1⟩
 obtain ⟨hB, v, hbk, hown, hne⟩ := h1
 have c0 : w1.cell? ⟨b, 0, none⟩ = some (.pointer (some ⟨b, 0, none⟩)) := by rw [Lib.cell_of_heap hbk]; rfl
 have c1 : w1.cell? ⟨b, 1, none⟩ = some v := by rw [Lib.cell_of_heap hbk]; rfl
 go_wp2_with (at_builtin; refine Lib.wpList_append_own_string _ rfl _ _ 68 9 rfl B 5 i0 Tryz.underlying68 Tryz.underlying9 hi hz0 hz1 hz2 _ _ _ rfl hown s rfl ?c3 ?c4 ?c5 ?_)
 case c3 => unfold maxLen; omega
 case c4 => omega
 case c5 => have := hb1.size; omega
 intro v' w2 hown' hgrow _
 have hlt : b < w1.heap.size := by
  rcases Nat.lt_or_ge b w1.heap.size with h' | h'
  ·exact h'
  ·simp [Array.getElem?_eq_none h'] at hbk
 have hb2 : w2.heap[b]? = some (.cells #[.pointer (some ⟨b, 0, none⟩), v] 163 (0, 0)) := by
  rw [hgrow.block b hlt (fun e => hne e.symm)]
  exact hbk
 have d0 : w2.cell? ⟨b, 0, none⟩ = some (.pointer (some ⟨b, 0, none⟩)) := by rw [Lib.cell_of_heap hb2]; rfl
 have d1 : w2.cell? ⟨b, 1, none⟩ = some v := by rw [Lib.cell_of_heap hb2]; rfl
 have f1 : w2.frozen? ⟨b, 1, none⟩ = false := Lib.frozen_of_heap hb2 1
 obtain ⟨ao, n', cap, rfl⟩ : ∃ ao n' cap, v' = .slice ao n' cap := by
  rcases hown'.2 with ⟨hv, _⟩ | ⟨g, cap, cur, hv, _⟩
  ·exact ⟨_, _, _, hv⟩
  ·exact ⟨_, _, _, hv⟩
 go_wp2
 go_ret2
 refine ⟨rfl, ?_, ?_⟩
 ·exact Lib.BuilderAt.put (T := 163) (e := 5) hB hb2 (bs' := bs ++ Lib.strCells s) (by simpa [Lib.strCells_length] using hown') (by decide)
 ·exact (hb1.grown hgrow (by have := hb1.size; omega) (fun k hk => (hown.lt k hk).1)).setCell (p := ⟨b, 1, none⟩) hB _
end Go.Proofs.YtcbicpbbjbkiaaaGreatDoor
namespace Go.Proofs.YtcbicpbbjbkiaaaGreatDoor
open Go.RowKit Go.Shelf

structure TpW (w : World) : Prop where
 tab : Lib.TabIs Tryz.prog w "internal/strconv.uint64pow10" .u64 Lib.pow10Tab
 ml : ∃ m, w.cell? ⟨0, 0, none⟩ = some (.int .i64 m)
theorem cell_lt {w : World} {b i : Nat} {v : Value} (h : w.cell? ⟨b, i, none⟩ = some v) : b < w.heap.size := by
 rcases Nat.lt_or_ge b w.heap.size with g | g
 ·exact g
 ·unfold World.cell? at h
  rw [Array.getElem?_eq_none g] at h
  simp at h
theorem TpW.bw {w : World} (h : TpW w) (d : Ext) : TpW (bw w d) := by
 refine ⟨World.var?_append (bs := d.blocks) rfl h.tab, ?_⟩
 obtain ⟨m, hm⟩ := h.ml
 exact ⟨m, by rw [bw_cell w d _ _ (cell_lt hm)]; exact hm⟩
theorem TpW.below {w w' : World} (h : TpW w) (hb : Below w.heap.size w w') : TpW w' := by
 obtain ⟨d, rfl⟩ := bw_of hb
 exact h.bw d
theorem TpW.lay {w : World} (h : TpW w) (L : List (Obj ⊕ Ext)) : TpW (lay w L) := h.below (lay_extends w L)
def strB (l : List UInt8) : ByteArray := ⟨l.toArray⟩
theorem strB_app (a b : List UInt8) : strB a ++ strB b = strB (a ++ b) := by
 unfold strB
 apply ByteArray.ext
 rw [ByteArray.data_append]
 simp
theorem strB_list (l : List UInt8) : (strB l).data.toList = l := by unfold strB; simp
theorem strB_size (l : List UInt8) : (strB l).size = l.length := by unfold strB; rw [Lib.size_eq]
theorem tp_drewN (w : World) (q : Nat) : ∃ d, w.drewN q = Go.Proofs.YtcbicpbbjbkiaaaGreatDoor.bw w d := bw_of (below_drewN (Below.refl _ _) q)
theorem tp_Itoa (n : Nat) (hn : n ≤ 9223372036854775807) (w : World) (h : TpW w) : Calls Tryz.prog 81 #[.int .i64 (n : Int)] w fun e w' => e = .returned (.string (strB (Lib.decDigits n))) ∧ ∃ d, w' = Go.Proofs.YtcbicpbbjbkiaaaGreatDoor.bw w d := by
 refine (Tryz.strconv_Itoa (n : Int) (by omega) (by omega) w h.tab).mono ?_
 rintro e w' ⟨rfl, k, os, rfl⟩
 refine ⟨?_, bw_of (Lib.below_grow _ w (Nat.le_refl _) k os)⟩
 unfold Lib.itoa
 rw [if_neg (by omega)]
 rfl
theorem rep_zero (c : Nat) : Lib.repeatL [48] c = List.replicate c 48 := by
 have := Lib.repeatL_replicate 48 1 c
 rw [Nat.mul_one] at this
 exact this
theorem tp_Repeat (c : Nat) (hc : c ≤ 100) (w : World) : Calls Tryz.prog 200 #[.string ⟨#[48]⟩, .int .i64 (c : Int)] w fun e w' => e = .returned (.string (strB (List.replicate c 48))) ∧ ∃ d, w' = Go.Proofs.YtcbicpbbjbkiaaaGreatDoor.bw w d := by
 refine (Tryz.strings_Repeat ⟨#[48]⟩ c w (by omega) (by show 1 * c ≤ _; omega)).mono ?_
 rintro e w' ⟨rfl, hb⟩
 refine ⟨?_, bw_of hb⟩
 show Ending.returned (.string ⟨(Lib.repeatL [48] c).toArray⟩) = _
 rw [rep_zero]; rfl
theorem dec_len_le {n : Nat} (h : n < 1000) : (Lib.decDigits n).length ≤ 3 := by
 by_cases h1 : n < 10
 ·rw [dec_small h1]; simp
 ·rw [dec_big h1, List.length_append]
  have := dec_len2 (n := n / 10) (by omega)
  simp only [List.length_singleton]
  omega
theorem tp_padded (n k : Nat) (hn : n < 1000) (hk : k ≤ 10) (w : World) (h : TpW w) : Calls Tryz.prog 116 #[.int .i64 (n : Int), .int .i64 (k : Int)] w fun e w' => e = .returned (.string (strB (padL n k))) ∧ ∃ d, w' = Go.Proofs.YtcbicpbbjbkiaaaGreatDoor.bw w d := by
 have HI := Lib.hid (fun L => tp_Itoa n (by omega) (lay w L) (h.lay L))
 have hl := dec_len_le hn
 have hsz := strB_size (Lib.decDigits n)
 obtain ⟨z, hz⟩ : ∃ z : Nat, k - (Lib.decDigits n).length = z := ⟨_, rfl⟩
 have hr : strB (padL n k) = strB (List.replicate z 48) ++ strB (Lib.decDigits n) := by rw [strB_app]; unfold padL; rw [hz]
 have HR := Lib.hid (fun W => tp_Repeat z (by omega) W)
 have hs2 : (strB (List.replicate z 48)).size = z := by rw [strB_size, List.length_replicate]
 have e1 : IntKind.i64.wrap ((k : Int) - ((strB (Lib.decDigits n)).size : Int)) = (k : Int) - ((strB (Lib.decDigits n)).size : Int) := IntWalk.i64_in _ (by omega)
 have e2 : mx 0 ((k : Int) - ((strB (Lib.decDigits n)).size : Int)) = (z : Int) := by rw [mx_eq]; omega
 have e3 : ¬ 9223372036854775807 < (strB (List.replicate z 48)).size + (strB (Lib.decDigits n)).size := by omega
 rw [hr]
 clear hr hs2 hsz hl hz h
 generalize strB (Lib.decDigits n) = S at *
 generalize strB (List.replicate z 48) = Z at *
 refine lay_start ?_
 go_enter Tryz.func116, Tryz.ntmps116
 go_wp2_with (first | (go_at_call 81; refine (HI.out _).mono ?_; rintro e w' ⟨rfl, d1, rfl⟩; rw [lay_bw]) | (go_at_call 200; refine (HR.out _).mono ?_; rintro e w' ⟨rfl, d2, rfl⟩; rw [lay_bw]))
 exact bodyPost_ret (v := .string (Z ++ S)) (by simp [results, Tryz.results116, go_sem]) rfl ⟨rfl, lay_ex _ _⟩
end Go.Proofs.YtcbicpbbjbkiaaaGreatDoor

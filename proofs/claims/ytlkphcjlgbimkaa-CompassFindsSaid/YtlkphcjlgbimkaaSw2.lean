/- compass.Swing: the list sorted by the library. -/
import Derived.Test.YtlkphcjlgbimkaaProg
import Derived.Test.YtlkphcjlgbimkaaLay
import Derived.Test.YtlkphcjlgbimkaaRegion
import Derived.Test.YtlkphcjlgbimkaaMix
import Derived.WalkKit
import Derived.WalkSpells
import Derived.WalkLawsBesides
import Derived.Lib.Hide
import Derived.BigQuiet
import Derived.Test.YtlkphcjlgbimkaaSw1
import Derived.Test.YtlkphcjlgbimkaaShelf
namespace Go.Proofs.Ytlkphcjlgbimkaa
open Go.RowKit Go.Sort Go.Shelf

def cmpH (x y : Int × Int) : Int := cmpI x.1 y.1
theorem lt_cmpH (x y : Int × Int) : ltOf cmpH x y = decide (x.1 < y.1) := by
  unfold ltOf cmpH cmpI
  by_cases h1 : x.1 < y.1
  · simp [h1]
  · by_cases h2 : y.1 < x.1 <;> simp [h1, h2]
theorem swo_cmpH : SWO (ltOf cmpH) where
  irrefl x := by rw [lt_cmpH]; simp
  trans x y z h1 h2 := by rw [lt_cmpH] at *; simp at *; omega
  ntrans x y z h1 h2 := by rw [lt_cmpH] at *; simp at *; omega
theorem lay2_grow (W : World) (o1 o2 : Obj) : Go.Proofs.Ytlkphcjlgbimkaa.lay W [.inl o1, .inl o2] = grow (W.drewN 0) (#[o2] ++ #[o1]) := by
  show (W.alloc o2).alloc o1 = _
  rw [alloc_eq_grow, alloc_eq_grow, grow_grow]; rfl
theorem cmpLays_ch (blk off size : Nat) (w : World) : CmpLays Try.prog 23 #[] chR.enc 2 cmpH blk off size w :=
  fun _ _ _ _ x y => (comp_Swing2 x.1 x.2 y.1 y.2 _).mono fun _ _ ⟨he, hw⟩ => ⟨he, 0, _, hw.trans (lay2_grow _ _ _)⟩
theorem isAgg_ch : ∀ w, (isAgg 32).run Try.prog w = .ok true w := fun _ => by kernel_rfl
theorem sizeOf_ch : ∀ w, (Go.sizeOf 32).run Try.prog w = .ok 2 w := fun _ => by kernel_rfl
theorem comp_sort (W0 : World) (v : Value) (l : Tl) (w : World) (hw : Below W0.heap.size W0 w) (h : OwG chR w W0.heap.size v l) (hl : 0 < l.length) (hb : l.length ≤ 1000000000) :
    Calls Try.prog 22 #[v, .func (.func 23) #[] #[]] w fun e w' => e = .returned (.tuple #[]) ∧ ∃ d l', w' = bw W0 d ∧ l'.Perm l ∧ l'.Pairwise (fun a b => a.1 ≤ b.1) ∧ OwG chR (bw W0 d) W0.heap.size v l' := by
  obtain ⟨g, cap, rfl, h1, h2, h3⟩ := h.form1 hl
  have eg : ∀ args w, (callFunc 23 args).run Try.prog w = .ok (.enter 23 args) w := enters_of Try.func23 (by kernel_rfl) rfl
  have hcon := AnyQ.slices_SortFunc Try.sortChange 2 isAgg_ch sizeOf_ch chR.enc chOk.len chOk.one cmpH swo_cmpH 23 #[] g 0 cap l.toArray w eg (cmpLays_ch g 0 l.toArray.size w) (holdsK_row chOk h) h2 (by simp; omega)
  have hs : l.toArray.size = l.length := by simp
  rw [hs] at hcon
  refine Calls.mono hcon fun e w' ⟨he, d', n, os, hp, ho, hw'⟩ => ⟨he, ?_⟩
  have hsz : d'.size = l.length := by rw [← hs]; exact hp.1
  have hperm : d'.toList.Perm l := by
    have := hp.2.2
    rw [Array.extract_eq_self_of_le (by rw [hsz]; exact Nat.le_refl _), Array.extract_eq_self_of_le (by rw [hs]; exact Nat.le_refl _)] at this
    exact this
  obtain ⟨e', he', hown⟩ := owG_sorted chOk hw h hsz (n := n) (os := os) (fun x hx => h.2 x (hperm.mem_iff.1 hx))
  refine ⟨e', d'.toList, hw'.trans he', hperm, ?_, hown⟩
  rw [List.pairwise_iff_getElem]
  intro i j hi hj hij
  have hj' : j < l.length := by rw [← hsz]; simpa using hj
  have h5 := ho i j (Nat.zero_le _) hij hj'
  rw [lt_cmpH, getElem!_pos d' j (by omega), getElem!_pos d' i (by omega)] at h5
  simp at h5
  simpa using h5
end Go.Proofs.Ytlkphcjlgbimkaa

/- Contracts and plain laws, several texts in one: Nw0; Nw1; Nw2; Bod; Shs; Shs2; Trd; Tr2; Tr3 -/
import Derived.Test.YtnnmfdeeicpdlaaGreatProg
import Derived.WalkKit
import Derived.WalkSpells
import Derived.WalkLawsBesides
import Derived.Lib.Hide
import Derived.BigQuiet
import Derived.Sort.OwnSorted
import Derived.Lib.SlicesCompact
import Derived.Sort.Walk0
import Derived.Test.YtnnmfdeeicpdlaaGreatPAA
import Derived.Test.YtnnmfdeeicpdlaaGreatPAC
import Derived.Test.YtnnmfdeeicpdlaaGreatPBB
import Derived.Test.YtnnmfdeeicpdlaaGreatPBD
import Derived.Test.YtnnmfdeeicpdlaaGreatPBE
/- almanac.New without pages: what it calls. -/
namespace Go.Proofs.YtnnmfdeeicpdlaaGreat
open Go.RowKit Go.Shelf

def isA (s : ByteArray) : Bool := s.toList == [65, 114, 105, 101, 115]
end Go.Proofs.YtnnmfdeeicpdlaaGreat
/- almanac.New without pages. -/
namespace Go.Proofs.YtnnmfdeeicpdlaaGreat
open Go.RowKit Go.Shelf

end Go.Proofs.YtnnmfdeeicpdlaaGreat
/- Without pages: the reference's New, the law's made, large. -/
namespace Go.Proofs.YtnnmfdeeicpdlaaGreat
open Go.RowKit Go.Shelf

end Go.Proofs.YtnnmfdeeicpdlaaGreat
/- Rows of strings; (*almanac.Book).Bodies. -/
namespace Go.Proofs.YtnnmfdeeicpdlaaGreat
open Go.RowKit

def strR : RecT ByteArray := { E := 9, S := 116, k := 1, bytes := 16, enc := fun x => [.string x], wf := fun x => x.size ≤ 9223372036854775807 }
theorem info_str : (Tryz.prog.info? 9).map (fun i => (i.zero.map (fun z => z.cells.size), i.size, i.bytes)) = some (some 1, 1, 16) := by kernel_rfl
theorem strOk : RecOk strR where
  len _ := rfl
  one x u hu := by
    simp only [strR, List.mem_cons, List.not_mem_nil, or_false] at hu
    rcases hu with rfl
    rfl
  pos := by decide
  und := Tryz.underlying116
  info := recInfo info_str
  small := by decide
def StrPost (w : World) (T : List ByteArray) (e : Ending) (w' : World) : Prop := ∃ A c d, e = .returned (.slice A T.length c) ∧ w' = bw w d ∧ (A = none → c = 0) ∧ SlG strR (bw w d) (.slice A T.length c) T
def StrOwn (w : World) (T : List ByteArray) (e : Ending) (w' : World) : Prop := ∃ v d, e = .returned v ∧ w' = bw w d ∧ OwG strR (bw w d) w.heap.size v T
theorem str_flat1 (s : ByteArray) : (#[Value.string s] : Array Value).toList = [s].flatMap strR.enc := rfl
theorem aries_wf : ∀ x ∈ [ariesS], strR.wf x := by
  intro x hx
  rw [List.mem_singleton.1 hx]
  exact (by decide : ariesS.size ≤ 9223372036854775807)
end Go.Proofs.YtnnmfdeeicpdlaaGreat
/- The library's slice functions at strings. -/
namespace Go.Proofs.YtnnmfdeeicpdlaaGreat
open Go.RowKit Go.Sort

end Go.Proofs.YtnnmfdeeicpdlaaGreat
/- slices.Sort and Compact at strings; sorted lists of strings. -/
namespace Go.Proofs.YtnnmfdeeicpdlaaGreat
open Go.RowKit Go.Sort

def toB (l : List UInt8) : ByteArray := ⟨l.toArray⟩
def ofB (s : ByteArray) : List UInt8 := s.data.toList
theorem ofB_list (s : ByteArray) : s.toList = ofB s := ByteArray.toList_eq s
def srtS (l : List (List UInt8)) : List (List UInt8) := l.mergeSort fun x y => decide (x ≤ y)
theorem srtS_len (l : List (List UInt8)) : (srtS l).length = l.length := List.length_mergeSort l
theorem mem_srtS {l : List (List UInt8)} {x : List UInt8} : x ∈ srtS l ↔ x ∈ l := List.mem_mergeSort
theorem mem_upToS {d : Array (List UInt8)} {x : List UInt8} : ∀ {m : Nat}, x ∈ Lib.compactUpTo d m → ∃ j, j < m ∧ x = d[j]!
  | 0, h => by simp [Lib.compactUpTo] at h
  | m + 1, h => by
    rw [Lib.compactUpTo_succ, List.mem_append] at h
    rcases h with h | h
    · obtain ⟨j, h1, h2⟩ := mem_upToS h
      exact ⟨j, by omega, h2⟩
    · split at h
      · exact ⟨m, by omega, by simpa using h⟩
      · exact absurd h (List.not_mem_nil)
theorem keepsS {d : Array (List UInt8)} {j : Nat} : Lib.keeps d j = true ↔ j = 0 ∨ d[j]! ≠ d[j - 1]! := by simp [Lib.keeps]
theorem upToS_mem {d : Array (List UInt8)} : ∀ {m j : Nat}, j < m → d[j]! ∈ Lib.compactUpTo d m
  | 0, j, h => absurd h (Nat.not_lt_zero j)
  | m + 1, j, h => by
    rw [Lib.compactUpTo_succ, List.mem_append]
    by_cases e : j < m
    · exact .inl (upToS_mem e)
    · obtain rfl : j = m := by omega
      by_cases hk : Lib.keeps d j = true
      · rw [if_pos hk]; exact .inr (List.mem_singleton.2 rfl)
      · have h0 : ¬ (j = 0 ∨ d[j]! ≠ d[j - 1]!) := fun h => hk (keepsS.2 h)
        have h1 : d[j]! = d[j - 1]! := Decidable.not_not.1 fun h => h0 (.inr h)
        rw [h1]
        exact .inl (upToS_mem (by omega))
theorem upToS_len (d : Array (List UInt8)) : ∀ m, (Lib.compactUpTo d m).length ≤ m
  | 0 => by simp [Lib.compactUpTo]
  | m + 1 => by
    rw [Lib.compactUpTo_succ, List.length_append]
    have := upToS_len d m
    split <;> simp <;> omega
def AscS (l : List (List UInt8)) : Prop := l.Pairwise (· < ·)
theorem leS_trans {a b c : List UInt8} (h : a ≤ b) (k : b ≤ c) : a ≤ c := List.le_trans h k
theorem upToS_asc {d : Array (List UInt8)} (hs : ∀ j, j + 1 < d.size → d[j]! ≤ d[j + 1]!) : ∀ m, m ≤ d.size → AscS (Lib.compactUpTo d m) ∧ ∀ x, x ∈ Lib.compactUpTo d m → x ≤ d[m - 1]!
  | 0, _ => by constructor <;> simp [Lib.compactUpTo, AscS]
  | m + 1, hm => by
    obtain ⟨h1, h2⟩ := upToS_asc hs m (by omega)
    rw [Lib.compactUpTo_succ]
    have h3 : ∀ x, x ∈ Lib.compactUpTo d m → x ≤ d[m]! := fun x hx => by
      have hm0 : 0 < m := by
        obtain ⟨j, hj, _⟩ := mem_upToS hx
        omega
      have a := h2 x hx
      have b := hs (m - 1) (by omega)
      rw [show m - 1 + 1 = m by omega] at b
      exact leS_trans a b
    split
    · rename_i hk
      refine ⟨List.pairwise_append.2 ⟨h1, List.pairwise_singleton .., fun x hx y hy => ?_⟩, fun x hx => ?_⟩
      · obtain rfl := List.mem_singleton.1 hy
        have hm0 : 0 < m := by
          obtain ⟨j, hj, _⟩ := mem_upToS hx
          omega
        have h5 := h2 x hx
        have h6 := hs (m - 1) (by omega)
        rw [show m - 1 + 1 = m by omega] at h6
        rcases keepsS.1 hk with h | h
        · omega
        · rcases Decidable.em (x < d[m]!) with h7 | h7
          · exact h7
          · have h8 : d[m]! ≤ x := List.not_lt.1 h7
            have h9 : d[m]! ≤ d[m - 1]! := leS_trans h8 h5
            exact absurd (List.le_antisymm h9 h6) h
      · rcases List.mem_append.1 hx with h | h
        · exact h3 x h
        · obtain rfl := List.mem_singleton.1 h
          exact List.le_refl _
    · rw [List.append_nil]
      exact ⟨h1, h3⟩
theorem compactS_len (l : List (List UInt8)) : (Lib.compact l).length ≤ l.length := upToS_len _ _
theorem mem_compactS {l : List (List UInt8)} {x : List UInt8} : x ∈ Lib.compact l ↔ x ∈ l := by
  unfold Lib.compact
  constructor
  · intro h
    obtain ⟨j, hj, rfl⟩ := mem_upToS h
    have : l.toArray[j]! = l[j] := by simp [hj]
    rw [this]; exact List.getElem_mem hj
  · intro h
    obtain ⟨j, hj, rfl⟩ := List.getElem_of_mem h
    have : l.toArray[j]! = l[j] := by simp [hj]
    rw [← this]; exact upToS_mem hj
theorem sortS_pair (l : List (List UInt8)) : (srtS l).Pairwise (· ≤ ·) := by
  have := List.pairwise_mergeSort (le := fun x y : List UInt8 => decide (x ≤ y)) (fun a b c h k => by simp only [decide_eq_true_eq] at *; exact leS_trans h k) (fun a b => by simp only [Bool.or_eq_true, decide_eq_true_eq]; exact List.le_total a b) l
  exact this.imp fun h => by simpa using h
theorem compactS_asc {l : List (List UInt8)} (hs : l.Pairwise (· ≤ ·)) : AscS (Lib.compact l) := by
  unfold Lib.compact
  refine (upToS_asc (fun j hj => ?_) l.length (by simp)).1
  have hj' : j + 1 < l.length := by simpa using hj
  have h1 : l.toArray[j]! = l[j] := by simp [show j < l.length by omega]
  have h2 : l.toArray[j + 1]! = l[j + 1] := by simp [hj']
  rw [h1, h2]
  exact List.pairwise_iff_getElem.1 hs j (j + 1) (by omega) hj' (by omega)
def onceS (l : List (List UInt8)) : List (List UInt8) := Lib.compact (srtS l)
theorem mem_onceS {l : List (List UInt8)} {x : List UInt8} : x ∈ onceS l ↔ x ∈ l := by unfold onceS; rw [mem_compactS, mem_srtS]
theorem asc_onceS (l : List (List UInt8)) : AscS (onceS l) := compactS_asc (sortS_pair l)
theorem onceS_len (l : List (List UInt8)) : (onceS l).length ≤ l.length := by
  have := compactS_len (srtS l)
  rw [srtS_len] at this
  exact this
theorem ascS_eq : ∀ {l m : List (List UInt8)}, AscS l → AscS m → (∀ x, x ∈ l ↔ x ∈ m) → l = m
  | [], [], _, _, _ => rfl
  | [], b :: m, _, _, h => absurd ((h b).2 (List.mem_cons_self ..)) List.not_mem_nil
  | a :: l, [], _, _, h => absurd ((h a).1 (List.mem_cons_self ..)) List.not_mem_nil
  | a :: l, b :: m, hl, hm, h => by
    obtain ⟨l1, l2⟩ := List.pairwise_cons.1 hl
    obtain ⟨m1, m2⟩ := List.pairwise_cons.1 hm
    have hab : a = b := by
      rcases List.mem_cons.1 ((h a).1 (List.mem_cons_self ..)) with e | e
      · exact e
      · rcases List.mem_cons.1 ((h b).2 (List.mem_cons_self ..)) with e' | e'
        · exact e'.symm
        · exact absurd (List.lt_trans (m1 a e) (l1 b e')) (List.lt_irrefl b)
    subst hab
    rw [ascS_eq l2 m2 fun x => ?_]
    constructor
    · intro hx
      rcases List.mem_cons.1 ((h x).1 (List.mem_cons_of_mem _ hx)) with e | e
      · subst e; exact absurd (l1 x hx) (List.lt_irrefl x)
      · exact e
    · intro hx
      rcases List.mem_cons.1 ((h x).2 (List.mem_cons_of_mem _ hx)) with e | e
      · subst e; exact absurd (m1 x hx) (List.lt_irrefl x)
      · exact e
end Go.Proofs.YtnnmfdeeicpdlaaGreat
/- (*almanac.Book).tracked: the names of the tracks, ascending, each once. -/
namespace Go.Proofs.YtnnmfdeeicpdlaaGreat
open Go.RowKit Go.Sort

theorem PgsD.open {P : Nat → Prop} {w : World} {v : Value} {l : List PgV} (h : PgsD P w v l) (hl : 0 < l.length) :
    ∃ b o cap, v = .slice (some ⟨b, o, none⟩) l.length cap ∧ (l.length ≤ cap ∧ cap ≤ 9223372036854775807) ∧ b < w.heap.size ∧ P b ∧ ∀ (i : Nat) p, l[i]? = some p → ∃ x : PgW, pgR.wf x ∧ PgD P w x p ∧
      w.cell? ⟨b, o + i * 4, none⟩ = some (.int .i64 x.y) ∧ w.cell? ⟨b, o + i * 4 + 1, none⟩ = some (.int .i64 x.m) ∧ w.cell? ⟨b, o + i * 4 + 2, none⟩ = some (.int .i64 x.d) ∧
      w.cell? ⟨b, o + i * 4 + 3, none⟩ = some (.slice x.ta x.tn x.tc) := by
  obtain ⟨ls, h1, h2, h3, h4⟩ := h
  have hwf := h1.wf
  obtain ⟨b, o, cap, rfl, hc, hb, hr⟩ := h1.open (by omega)
  rw [h3] at hc h2 ⊢
  refine ⟨b, o, cap, rfl, hc, hb, h2 b o _ _ rfl hl, fun i t ht => ?_⟩
  have hi : i < ls.length := by rw [h3]; exact (List.getElem?_eq_some_iff.1 ht).1
  have hx : ls[i]? = some ls[i] := List.getElem?_eq_getElem hi
  exact ⟨ls[i], hwf _ (List.getElem_mem hi), h4 i _ t hx ht, hr i _ hx 0 _ rfl, hr i _ hx 1 _ rfl, hr i _ hx 2 _ rfl, hr i _ hx 3 _ rfl⟩
theorem pgs_form {P : Nat → Prop} {w : World} {v : Value} {l : List PgV} (h : PgsD P w v l) : ∃ a cap, v = .slice a l.length cap := by
  obtain ⟨ls, h1, h2, h3, h4⟩ := h
  obtain ⟨a, c, e⟩ := h1.form
  exact ⟨a, c, by rw [e, h3]⟩
def nmsP (p : PgV) : List ByteArray := p.ts.map TrkV.s
def nmsL (l : List PgV) : List ByteArray := l.flatMap nmsP
def tkL (l : List PgV) : List ByteArray := (onceS ((nmsL l).map ofB)).map toB
theorem nms_snoc {l : List PgV} {i : Nat} {p : PgV} (hp : l[i]? = some p) : nmsL (l.take (i + 1)) = nmsL (l.take i) ++ nmsP p := by
  unfold nmsL
  rw [List.take_add_one, hp, List.flatMap_append]; simp
structure Few (l : List PgV) : Prop where
  len : l.length ≤ 1000
  ts : ∀ p ∈ l, p.ts.length ≤ 1000
theorem few_nms {l : List PgV} (h : Few l) : (nmsL l).length ≤ 1000000 := by
  have : ∀ m : List PgV, (∀ p ∈ m, p.ts.length ≤ 1000) → (nmsL m).length ≤ m.length * 1000 := by
    intro m
    induction m with
    | nil => intro _; simp [nmsL]
    | cons p m ih =>
      intro hm
      have h1 := ih fun q hq => hm q (List.mem_cons_of_mem _ hq)
      have h2 := hm p (List.mem_cons_self ..)
      unfold nmsL at h1 ⊢
      rw [List.flatMap_cons, List.length_append, List.length_cons, nmsP, List.length_map]
      omega
  have h1 := this l h.ts
  have := h.len
  omega
theorem few_take {l : List PgV} (h : Few l) (i : Nat) : Few (l.take i) := ⟨by rw [List.length_take]; have := h.len; omega, fun p hp => h.ts p (List.mem_of_mem_take hp)⟩
end Go.Proofs.YtnnmfdeeicpdlaaGreat
/- The reference's names of tracks: has; insertion in order (plain law). -/
namespace Go.Proofs.YtnnmfdeeicpdlaaGreat
open Go.RowKit Go.Sort

def hasB (l : List ByteArray) (s : ByteArray) : Bool := l.any (fun x => nmB x s)
theorem nmB_iff {a b : ByteArray} : nmB a b = true ↔ a = b := by
  unfold nmB
  rw [beq_iff_eq, ofB_list, ofB_list]
  constructor
  · intro h
    have : toB (ofB a) = toB (ofB b) := by rw [h]
    exact this
  · intro h; rw [h]
theorem hasB_iff {l : List ByteArray} {s : ByteArray} : hasB l s = true ↔ s ∈ l := by
  unfold hasB
  rw [List.any_eq_true]
  constructor
  · rintro ⟨x, hx, h⟩; rw [← nmB_iff.1 h]; exact hx
  · intro h; exact ⟨s, h, nmB_iff.2 rfl⟩
set_option maxHeartbeats 1000000 in
theorem ref17_has (v : Value) (l : List ByteArray) (s : ByteArray) (w : World) (hv : SlG strR w v l) :
    Calls Tryz.prog 139 #[v, .string s] w fun e w' => e = .returned (.bool (hasB l s)) ∧ ∃ d, w' = bw w d := by
  by_cases hz : l = []
  · subst hz
    obtain ⟨a, cap, rfl⟩ := hv.form
    refine lay_start ?_
    go_enter Tryz.func139, Tryz.ntmps139
    go_wp2_with fail
    refine wp_loop_rounds 1 ?_
    rw [rounds_succ]
    go_wp2
    go_ret
    exact ⟨rfl, lay_ex _ _⟩
  · obtain ⟨b, o, cap, rfl, hc, hb, hr⟩ := hv.open (List.length_pos_iff.2 hz)
    obtain ⟨m, hm⟩ : ∃ m, l.length = m := ⟨_, rfl⟩
    have HM := Lib.hid hm
    rw [hm] at hc ⊢
    have HR : Hid (∀ i x, l[i]? = some x → w.cell? ⟨b, o + i, none⟩ = some (.string x)) := Lib.hid (fun i x hx => by have := hr i x hx 0 _ rfl; simpa [strR] using this)
    clear hz hm hr hv
    have HH : Hid (∀ i x, l[i]? = some x → hasB (l.drop i) s = (nmB x s || hasB (l.drop (i + 1)) s)) := Lib.hid (fun i x hx => by
      have hi := (List.getElem?_eq_some_iff.1 hx).1
      rw [List.drop_eq_getElem_cons hi, (List.getElem?_eq_some_iff.1 hx).2]; rfl)
    have HZ : Hid (hasB (l.drop m) s = false) := Lib.hid (by rw [List.drop_eq_nil_of_le (by rw [HM.out]; exact Nat.le_refl _)]; rfl)
    refine lay_start ?_
    go_enter Tryz.func139, Tryz.ntmps139
    go_wp2_with fail
    go_loopw [5] (fun i wr => ∃ (k : Nat) (d : Ext), k ≤ m ∧ i = .int .i64 k ∧ wr = lay w [.inr d] ∧ hasB l s = hasB (l.drop k) s) (fun i _ => m - (intOf i).toNat)
    case atStart => exact ⟨0, noExt _, Nat.zero_le _, rfl, (bw_noExt _).symm, rfl⟩
    case round =>
      obtain ⟨k, d, hk, rfl, rfl, hA⟩ := hrel
      have HA := Lib.hid hA
      clear hA
      by_cases hlt : k < m
      · obtain ⟨x, hx⟩ : ∃ x, l[k]? = some x := ⟨_, List.getElem?_eq_getElem (by rw [HM.out]; exact hlt)⟩
        have e0 := HR.out k x hx
        have x1 : (k : Int) < (m : Int) := by omega
        have x0 : (0 : Int) ≤ (k : Int) := by omega
        have HN := Lib.hid (HA.out.trans (HH.out k x hx))
        clear hx
        cases ho : nmB x s
        · rw [ho] at HN
          have t1 : (x.toList == s.toList) = false := ho
          clear ho
          go_wp2_with fail
          go_roundw
          case rel => exact ⟨k + 1, d, by omega, by go_num, rfl, HN.out⟩
          case measure => simp [intOf]; omega
        · rw [ho] at HN
          have t1 : (x.toList == s.toList) = true := ho
          clear ho
          go_wp2_with fail
          go_ret
          exact ⟨ret_bool HN.out.symm, lay_ex _ _⟩
      · obtain rfl : k = m := by omega
        have x1 : ¬ (k : Int) < (k : Int) := by omega
        have HN := Lib.hid (HA.out.trans HZ.out)
        go_wp2
        go_ret
        exact ⟨ret_bool HN.out.symm, lay_ex _ _⟩

def insN (l : List ByteArray) (at_ : Nat) (s : ByteArray) : List ByteArray := l.take at_ ++ s :: l.drop at_
def ltB (a b : ByteArray) : Bool := Op.bytesLess a.toList b.toList
theorem ltB_iff {a b : ByteArray} : ltB a b = true ↔ ofB a < ofB b := by
  unfold ltB
  rw [bytesLess_eq, ofB_list, ofB_list, decide_eq_true_eq]
inductive TrL : List ByteArray → List ByteArray → Prop where
  | nil : TrL [] []
  | had {ns l : List ByteArray} {s : ByteArray} (h : TrL ns l) (hs : hasB l s = true) : TrL (ns ++ [s]) l
  | put {ns l : List ByteArray} {s : ByteArray} {k : Nat} (h : TrL ns l) (hs : hasB l s = false) (hk : k ≤ l.length) (h1 : ∀ (j : Nat) x, j < k → l[j]? = some x → ltB x s = true) (h2 : ∀ x, l[k]? = some x → ltB x s = false) : TrL (ns ++ [s]) (insN l k s)
theorem AscS.get {l : List (List UInt8)} (h : AscS l) {i j : Nat} {x y : List UInt8} (hx : l[i]? = some x) (hy : l[j]? = some y) (hij : i < j) : x < y := by
  obtain ⟨h1, rfl⟩ := List.getElem?_eq_some_iff.1 hx
  obtain ⟨h2, rfl⟩ := List.getElem?_eq_some_iff.1 hy
  exact List.pairwise_iff_getElem.1 h i j h1 h2 hij
theorem TrL.spec {ns l : List ByteArray} (h : TrL ns l) : AscS (l.map ofB) ∧ (∀ s, s ∈ l ↔ s ∈ ns) ∧ l.length ≤ ns.length := by
  induction h with
  | nil => exact ⟨List.Pairwise.nil, fun s => Iff.rfl, Nat.le_refl _⟩
  | had h hs ih =>
    obtain ⟨a, b, c⟩ := ih
    refine ⟨a, fun t => ?_, by rw [List.length_append]; omega⟩
    rw [b t, List.mem_append]
    constructor
    · exact .inl
    · rintro (h1 | h1)
      · exact h1
      · rw [List.mem_singleton.1 h1]; exact (b _).1 (hasB_iff.1 hs)
  | @put ns l s k h hs hk h1 h2 ih =>
    obtain ⟨a, b, c⟩ := ih
    have hlen : (insN l k s).length = l.length + 1 := by
      unfold insN
      rw [List.length_append, List.length_cons, List.length_take, List.length_drop]; omega
    have hns : s ∉ l := fun h => by rw [hasB_iff.2 h] at hs; cases hs
    refine ⟨?_, fun t => ?_, by rw [hlen, List.length_append]; simp; exact c⟩
    · unfold insN
      rw [List.map_append, List.map_cons]
      have a1 : AscS ((l.take k).map ofB) := by rw [List.map_take]; exact a.sublist (List.take_sublist ..)
      have a2 : AscS ((l.drop k).map ofB) := by rw [List.map_drop]; exact a.sublist (List.drop_sublist ..)
      have l1 : ∀ x ∈ (l.take k).map ofB, x < ofB s := fun x hx => by
        obtain ⟨y, hy, rfl⟩ := List.mem_map.1 hx
        obtain ⟨j, hj, e⟩ := List.getElem_of_mem hy
        rw [List.length_take] at hj
        refine ltB_iff.1 (h1 j y (by omega) ?_)
        rw [← e, List.getElem_take]; exact List.getElem?_eq_getElem _
      have l2 : ∀ x ∈ (l.drop k).map ofB, ofB s < x := fun x hx => by
        obtain ⟨y, hy, rfl⟩ := List.mem_map.1 hx
        have hym : y ∈ l := List.mem_of_mem_drop hy
        have hne : ofB s ≠ ofB y := fun h => hns (by have : toB (ofB s) = toB (ofB y) := by rw [h]
                                                     rw [show s = y from this]; exact hym)
        obtain ⟨j, hj, e⟩ := List.getElem_of_mem hy
        rw [List.length_drop] at hj
        rw [List.getElem_drop] at e
        have hkl : k < l.length := by omega
        have hk0 := h2 l[k] (List.getElem?_eq_getElem hkl)
        have hge : ofB s ≤ ofB l[k] := List.not_lt.1 (fun h => by rw [ltB_iff.2 h] at hk0; cases hk0)
        have hle : ofB l[k] ≤ ofB y := by
          by_cases hj0 : j = 0
          · subst hj0
            rw [← e]
            simp
          · have := a.get (i := k) (j := k + j) (x := ofB l[k]) (y := ofB y) (by rw [List.getElem?_map, List.getElem?_eq_getElem hkl]; rfl) (by rw [List.getElem?_map, List.getElem?_eq_getElem (by omega), e]; rfl) (by omega)
            exact List.le_of_lt this
        have := leS_trans hge hle
        rcases Decidable.em (ofB s < ofB y) with h | h
        · exact h
        · exact absurd (List.le_antisymm this (List.not_lt.1 h)) hne
      refine List.pairwise_append.2 ⟨a1, List.pairwise_cons.2 ⟨l2, a2⟩, fun x hx y hy => ?_⟩
      rcases List.mem_cons.1 hy with rfl | hy
      · exact l1 x hx
      · exact List.lt_trans (l1 x hx) (l2 y hy)
    · unfold insN
      rw [List.mem_append, List.mem_cons, List.mem_append, List.mem_singleton, ← b t]
      rw [show t ∈ l ↔ t ∈ l.take k ∨ t ∈ l.drop k by rw [← List.mem_append, List.take_append_drop]]
      constructor
      · rintro (h | h | h)
        · exact .inl (.inl h)
        · exact .inr h
        · exact .inl (.inr h)
      · rintro ((h | h) | h)
        · exact .inl h
        · exact .inr (.inr h)
        · exact .inr (.inl h)
theorem TrL.eq {l : List PgV} {m : List ByteArray} (h : TrL (nmsL l) m) : m = tkL l := by
  obtain ⟨a, b, _⟩ := h.spec
  have e : m.map ofB = onceS ((nmsL l).map ofB) := ascS_eq a (asc_onceS _) fun x => by
    rw [mem_onceS, List.mem_map, List.mem_map]
    constructor
    · rintro ⟨y, hy, rfl⟩; exact ⟨y, (b y).1 hy, rfl⟩
    · rintro ⟨y, hy, rfl⟩; exact ⟨y, (b y).2 hy, rfl⟩
  unfold tkL
  rw [← e, List.map_map]
  exact ((List.map_congr_left (fun _ _ => rfl)).trans (List.map_id m)).symm
end Go.Proofs.YtnnmfdeeicpdlaaGreat
/- The reference's names of tracks. -/
namespace Go.Proofs.YtnnmfdeeicpdlaaGreat
open Go.RowKit Go.Sort

def shfN (m : List ByteArray) (j : Nat) : List ByteArray := (m ++ [(⟨#[]⟩ : ByteArray)]).take (j + 1) ++ m.drop j
theorem shfN_top (m : List ByteArray) : shfN m m.length = m ++ [(⟨#[]⟩ : ByteArray)] := by
  unfold shfN
  rw [List.drop_length, List.append_nil, List.take_of_length_le (by simp)]
theorem shfN_get {m : List ByteArray} {j : Nat} {x : ByteArray} (hx : m[j]? = some x) : (shfN m (j + 1))[j]? = some x := by
  have hj := (List.getElem?_eq_some_iff.1 hx).1
  unfold shfN
  rw [List.getElem?_append_left (by rw [List.length_take, List.length_append]; simp; omega), List.getElem?_take_of_lt (by omega), List.getElem?_append_left hj, hx]
theorem shfN_at {m : List ByteArray} {j : Nat} (hj : j ≤ m.length) : ∃ y, (shfN m j)[j]? = some y := by
  unfold shfN
  rw [List.getElem?_append_left (by rw [List.length_take, List.length_append]; simp; omega)]
  exact ⟨_, List.getElem?_eq_getElem (by rw [List.length_take, List.length_append]; simp; omega)⟩
theorem shfN_set {m : List ByteArray} {j : Nat} {x : ByteArray} (hx : m[j]? = some x) : (shfN m (j + 1)).set (j + 1) x = shfN m j := by
  obtain ⟨hj, rfl⟩ := List.getElem?_eq_some_iff.1 hx
  unfold shfN
  have e1 : ((m ++ [(⟨#[]⟩ : ByteArray)]).take (j + 1 + 1)).length = j + 2 := by rw [List.length_take, List.length_append]; simp; omega
  rw [List.set_append_left _ _ (by rw [e1]; omega), List.drop_eq_getElem_cons hj]
  rw [List.take_add_one (i := j + 1), List.set_append_right _ _ (by rw [List.length_take]; exact Nat.min_le_left ..)]
  have e2 : ((m ++ [(⟨#[]⟩ : ByteArray)]).take (j + 1)).length = j + 1 := by rw [List.length_take, List.length_append]; simp; omega
  rw [e2, Nat.sub_self]
  have e3 : j + 1 < (m ++ [(⟨#[]⟩ : ByteArray)]).length := by rw [List.length_append]; simp; omega
  rw [List.getElem?_eq_getElem e3]
  simp
theorem shfN_end {m : List ByteArray} {k : Nat} (s : ByteArray) (hk : k ≤ m.length) : (shfN m k).set k s = insN m k s := by
  unfold shfN insN
  have e1 : ((m ++ [(⟨#[]⟩ : ByteArray)]).take (k + 1)).length = k + 1 := by rw [List.length_take, List.length_append]; simp; omega
  rw [List.set_append_left _ _ (by rw [e1]; omega), List.take_add_one, List.set_append_right _ _ (by rw [List.length_take]; exact Nat.min_le_left ..)]
  have e2 : ((m ++ [(⟨#[]⟩ : ByteArray)]).take k).length = k := by rw [List.length_take, List.length_append]; simp; omega
  have e3 : k < (m ++ [(⟨#[]⟩ : ByteArray)]).length := by rw [List.length_append]; simp; omega
  rw [e2, Nat.sub_self, List.getElem?_eq_getElem e3, List.take_append_of_le_length hk]
  simp
theorem strPost_of {w W : World} {base : Nat} {v : Value} {T : List ByteArray} (h : OwG strR W base v T) (hW : ∃ d, W = bw w d) : StrPost w T (.returned v) W := by
  obtain ⟨d, rfl⟩ := hW
  have hs := h.sl strOk
  rcases h.1.2 with ⟨rfl, _⟩ | ⟨g, cap', cur, rfl, _⟩
  · obtain ⟨a', c', e⟩ := hs.form
    obtain ⟨rfl, h0, rfl⟩ := Value.slice.inj e
    exact ⟨none, 0, d, by rw [← h0], rfl, fun _ => rfl, by rw [← h0]; exact hs⟩
  · obtain ⟨a', c', e⟩ := hs.form
    obtain ⟨rfl, h0, rfl⟩ := Value.slice.inj e
    exact ⟨some ⟨g, 0, none⟩, cap', d, by rw [h0], rfl, (fun h => by cases h), by rw [← h0]; exact hs⟩
theorem wf_empty : strR.wf ⟨#[]⟩ := (by decide : (⟨#[]⟩ : ByteArray).size ≤ 9223372036854775807)
set_option maxHeartbeats 4000000 in
set_option maxRecDepth 100000 in
theorem ref17_Tracked {P : Nat → Prop} (vp vs : Value) (l : List PgV) (w : World) (hv : PgsD P w vp l) (hF : Few l) :
    Calls Tryz.prog 203 #[.agg #[vp, vs]] w (StrPost w (tkL l)) := by
  have HFt := Lib.hid (fun i => few_nms (few_take hF i))
  have HTs := Lib.hid hF.ts
  have hfl := hF.len
  have HHas := Lib.hid ref17_has
  obtain ⟨a, cap, rfl⟩ := pgs_form hv
  have HV := Lib.hid hv
  obtain ⟨q, hq⟩ : ∃ q, l.length = q := ⟨_, rfl⟩
  have HQ := Lib.hid hq
  rw [hq] at hfl HV ⊢
  clear hv hF hq
  refine lay_start ?_
  go_enter Tryz.func203, Tryz.ntmps203
  go_wp2_with fail
  have hW0 : w.heap.size ≤ (lay w [.inl (.cells #[.slice a q cap, vs] 96 (0, 0))]).heap.size := (lay_extends w _).size
  have HW0 := Lib.hid hW0
  clear hW0
  go_loopw [3, 4] (fun v3 v4 wr => ∃ (i : Nat) (d : Ext) (m : List ByteArray), i ≤ q ∧ v4 = .int .i64 (i : Int) ∧ wr = lay w [.inr d, .inl (.cells #[.slice a q cap, vs] 96 (0, 0))] ∧ OwG strR (lay w [.inr d, .inl (.cells #[.slice a q cap, vs] 96 (0, 0))]) (lay w [.inl (.cells #[.slice a q cap, vs] 96 (0, 0))]).heap.size v3 m ∧ TrL (nmsL (l.take i)) m) (fun _ v4 _ => q - (intOf v4).toNat)
  case atStart => exact ⟨0, noExt _, [], Nat.zero_le _, rfl, (bw_noExt _).symm, OwG.nil _ _ _, TrL.nil⟩
  case round =>
    obtain ⟨i, d, m, hi, rfl, rfl, hO, hT⟩ := hrel
    have HO := Lib.hid hO
    have HT := Lib.hid hT
    clear hO hT
    by_cases hlt : i < q
    · obtain ⟨p, hp⟩ : ∃ p, l[i]? = some p := ⟨_, List.getElem?_eq_getElem (by rw [HQ.out]; exact hlt)⟩
      obtain ⟨b, o, cap1, hv1, hcc, hb, -, hr⟩ := HV.out.open (by rw [HQ.out]; omega)
      rw [HQ.out] at hv1
      cases hv1
      obtain ⟨x, hw, hD, c0, c1, c2, c3⟩ := hr i p hp
      rw [HQ.out] at hcc
      have htn := HTs.out p (List.mem_of_getElem? hp)
      have HSn := Lib.hid (nms_snoc hp)
      have HLen := Lib.hid (HFt.out i)
      have hts := hD.ts
      obtain ⟨nt, hnt⟩ : ∃ nt, p.ts.length = nt := ⟨_, rfl⟩
      have HNt := Lib.hid hnt
      have x1 : (i : Int) < (q : Int) := by omega
      have x0 : (0 : Int) ≤ (i : Int) := by omega
      rw [hnt] at htn
      clear hD hw hp hr
      obtain ⟨xy, xm, xd, ta, tn, tc⟩ := x
      dsimp only at c0 c1 c2 c3 hts
      obtain ⟨a', c', hv'⟩ := hts.form
      rw [hnt] at hv'
      cases hv'
      have HTsD := Lib.hid hts
      clear hts hnt
      go_wp2_with fail
      go_loopw [3, 5] (fun v3 v5 wr => ∃ (k : Nat) (dk : Ext) (m : List ByteArray), k ≤ nt ∧ v5 = .int .i64 (k : Int) ∧ wr = lay w [.inr dk, .inl (.cells #[.slice (some ⟨b, o, none⟩) q cap, vs] 96 (0, 0))] ∧ OwG strR (lay w [.inr dk, .inl (.cells #[.slice (some ⟨b, o, none⟩) q cap, vs] 96 (0, 0))]) (lay w [.inl (.cells #[.slice (some ⟨b, o, none⟩) q cap, vs] 96 (0, 0))]).heap.size v3 m ∧ TrL (nmsL (l.take i) ++ (p.ts.take k).map TrkV.s) m) (fun _ v5 _ => nt - (intOf v5).toNat)
      case atStart =>
        exact ⟨0, d, m, Nat.zero_le _, rfl, rfl, HO.out, by have h := HT.out; rw [← List.append_nil (nmsL (l.take i))] at h; exact h⟩
      case round =>
        clear HO HT m
        obtain ⟨k, dk, m, hk, rfl, rfl, hI, hT⟩ := hrel
        have HI := Lib.hid hI
        have HT := Lib.hid hT
        clear hI hT
        by_cases hkt : k < nt
        · obtain ⟨t, htt⟩ : ∃ t, p.ts[k]? = some t := ⟨_, List.getElem?_eq_getElem (by rw [HNt.out]; exact hkt)⟩
          obtain ⟨b2, o2, cap2, hv', hcc2, hb2, -, hr2⟩ := HTsD.out.open (by rw [HNt.out]; omega)
          rw [HNt.out] at hv'
          cases hv'
          obtain ⟨z, hzw, hzD, e0, e1, e2, e3, e4, e5⟩ := hr2 k t htt
          rw [HNt.out] at hcc2
          have HSk : Hid (nmsL (l.take i) ++ (p.ts.take k).map TrkV.s ++ [t.s] = nmsL (l.take i) ++ (p.ts.take (k + 1)).map TrkV.s) := Lib.hid (by rw [List.take_add_one, htt]; simp)
          have HLk : Hid ((nmsL (l.take i) ++ (p.ts.take k).map TrkV.s).length ≤ 1000000000) := Lib.hid (by have := HLen.out; simp only [List.length_append, List.length_map, List.length_take]; omega)
          have HLm : Hid (m.length ≤ 1000000000) := Lib.hid (Nat.le_trans HT.out.spec.2.2 HLk.out)
          have hzs := hzD.s
          have HZw := Lib.hid hzw.1
          have y1 : (k : Int) < (nt : Int) := by omega
          have y0 : (0 : Int) ≤ (k : Int) := by omega
          clear hzD hzw htt hr2
          obtain ⟨zs, za, zn, zc, zda, zdn, zdc, zp, zq, zr⟩ := z
          dsimp only at hzs e0 e1 e2 e3 e4 e5 HZw
          rw [← hzs] at HSk
          clear hzs
          generalize hQ : nmsL (l.take i) ++ (p.ts.take k).map TrkV.s = Q at *
          clear hQ
          have HH := Lib.hid (HHas.out _ m zs _ (HI.out.sl strOk))
          go_wp2_with fail
          refine HH.out.mono ?_
          rintro e w' ⟨rfl, d1, rfl⟩
          cases hhas : hasB m zs
          case true =>
            have HX := Lib.hid (TrL.had HT.out hhas)
            obtain ⟨dT, hdT⟩ := lay_in w [.inr d1, .inr dk] [.inl (.cells #[.slice (some ⟨b, o, none⟩) q cap, vs] 96 (0, 0))]
            have HdT := Lib.hid hdT
            clear hdT hhas
            go_wp2_with fail
            go_roundw
            case rel => exact ⟨k + 1, dT, m, by omega, by go_num, HdT.out, by have h : OwG strR (lay w ([.inr d1, .inr dk] ++ [.inl (.cells #[.slice (some ⟨b, o, none⟩) q cap, vs] 96 (0, 0))])) _ _ _ := owG_on (A := [.inr d1]) HI.out; rw [HdT.out] at h; exact h, by have h := HX.out; rw [HSk.out] at h; exact h⟩
            case measure => simp [intOf]; omega
          case false =>
            have HX := Lib.hid (fun k => TrL.put (k := k) HT.out hhas)
            clear hhas
            go_wp2_with fail
            obtain ⟨n, hn⟩ : ∃ n, m.length = n := ⟨_, rfl⟩
            have HN := Lib.hid hn
            have hn1 : n ≤ 1000000000 := by rw [← hn]; exact HLm.out
            obtain ⟨va, vc, hu⟩ := HI.out.form
            rw [hn] at hu HX
            subst hu
            clear hn
            go_loopw [7] (fun v7 wr => ∃ (j : Nat) (dj : Ext), j ≤ n ∧ v7 = .int .i64 (j : Int) ∧ wr = lay w [.inr dj, .inl (.cells #[.slice (some ⟨b, o, none⟩) q cap, vs] 96 (0, 0))] ∧ OwG strR (lay w [.inr dj, .inl (.cells #[.slice (some ⟨b, o, none⟩) q cap, vs] 96 (0, 0))]) (lay w [.inl (.cells #[.slice (some ⟨b, o, none⟩) q cap, vs] 96 (0, 0))]).heap.size (.slice va n vc) m ∧ ∀ (i : Nat) x, i < j → m[i]? = some x → ltB x zs = true) (fun v7 _ => n - (intOf v7).toNat)
            case atStart =>
              obtain ⟨dT, hdT⟩ := lay_in w [.inr d1, .inr dk] [.inl (.cells #[.slice (some ⟨b, o, none⟩) q cap, vs] 96 (0, 0))]
              exact ⟨0, dT, Nat.zero_le _, rfl, hdT, by have h : OwG strR (lay w ([.inr d1, .inr dk] ++ [.inl (.cells #[.slice (some ⟨b, o, none⟩) q cap, vs] 96 (0, 0))])) _ _ _ := owG_on (A := [.inr d1]) HI.out; rw [hdT] at h; exact h, fun i x hi => absurd hi (Nat.not_lt_zero i)⟩
            case round =>
              clear HI HT HH
              obtain ⟨j, dj, hj, rfl, rfl, hI, hA⟩ := hrel
              have HI := Lib.hid hI
              have HA := Lib.hid hA
              clear hI hA
              have hyp : ∀ (k : Nat), k ≤ n → (∀ x, m[k]? = some x → ltB x zs = false) → (∀ (i : Nat) x, i < k → m[i]? = some x → ltB x zs = true) → TrL (Q ++ [zs]) (insN m k zs) := fun k h1 h2 h3 => HX.out k h1 h3 h2
              have HY := Lib.hid hyp
              clear hyp HX
              by_cases hjn : j < n
              · obtain ⟨x, hx⟩ : ∃ x, m[j]? = some x := ⟨_, List.getElem?_eq_getElem (by rw [HN.out]; exact hjn)⟩
                obtain ⟨g, cap', hg, hg0, hg1, hg2, hg3⟩ := HI.out.form1 (by rw [HN.out]; omega)
                rw [HN.out] at hg hg2
                cases hg
                have e6 : (lay w [.inr dj, .inl (.cells #[.slice (some ⟨b, o, none⟩) q cap, vs] 96 (0, 0))]).cell? ⟨g, j, none⟩ = some (.string x) := by
                  have := HI.out.cell strOk hx (j := 0) (u := .string x) rfl
                  simpa [strR] using this
                have z1 : (j : Int) < (n : Int) := by omega
                have z0 : (0 : Int) ≤ (j : Int) := by omega
                have HXx := Lib.hid hx
                clear hx
                cases hlx : ltB x zs
                case true =>
                  have t1 : Op.bytesLess x.toList zs.toList = true := hlx
                  have HLx := Lib.hid hlx
                  clear hlx
                  go_wp2_with fail
                  go_roundw
                  case rel => exact ⟨j + 1, dj, by omega, by go_num, rfl, HI.out, fun i y hi hy => by
                    rcases Nat.lt_succ_iff_lt_or_eq.1 hi with h | h
                    · exact HA.out i y h hy
                    · subst h; rw [HXx.out] at hy; cases hy; exact HLx.out⟩
                  case measure => simp [intOf]; omega
                case false =>
                  have t1 : Op.bytesLess x.toList zs.toList = false := hlx
                  have HZ := Lib.hid (HY.out j hj (fun y hy => by rw [HXx.out] at hy; cases hy; exact hlx) HA.out)
                  clear hlx HXx
                  go_wp2_with (at_builtin; refine push_rec strOk rfl _ _ rfl (lay w [.inl (.cells #[.slice (some ⟨b, o, none⟩) q cap, vs] 96 (0, 0))]) _ ⟨#[]⟩ #[.string ⟨#[]⟩] 9 (posn w [dj.n, 1]) _ m (lay_belowG (A := [_, _]) (B := [.inl (.cells #[.slice (some ⟨b, o, none⟩) q cap, vs] 96 (0, 0))])) (owG_on (A := [_]) HI.out) (lay_get w _ 0 _ rfl) rfl rfl rfl HLm.out wf_empty ?_; intro v3 d3 hv3)
                  obtain ⟨g3, cap3, hg3e, hg30, hg31, hg32, hg33⟩ := hv3.form1 (by simp)
                  rw [← shfN_top, HN.out] at hv3
                  rw [List.length_append, HN.out] at hg3e hg32
                  change v3 = .slice (some ⟨g3, 0, none⟩) (n + 1) cap3 at hg3e
                  change n + 1 ≤ cap3 at hg32
                  subst hg3e
                  obtain ⟨n1, hn2⟩ : ∃ n1, n + 1 = n1 := ⟨_, rfl⟩
                  rw [hn2] at hv3 hg32 ⊢
                  have hn3 : n1 ≤ 1000000001 := by omega
                  have w1 : IntKind.i64.wrap ((n1 : Int) - 1) = (n : Int) := by rw [IntWalk.i64_in _ (by omega)]; omega
                  have HN1 := Lib.hid hn2
                  clear hn2
                  have H3 := Lib.hid hv3
                  clear hv3
                  rename_i K hK
                  go_simp
                  refine hK _ _ ?_
                  clear hK K
                  go_wp2_with fail
                  clear HI
                  go_loopw [8] (fun v8 wr => ∃ (i : Nat) (dd : Ext), (j ≤ i ∧ i ≤ n) ∧ v8 = .int .i64 (i : Int) ∧ wr = lay w [.inr dd, .inl (.cells #[.slice (some ⟨b, o, none⟩) q cap, vs] 96 (0, 0))] ∧ OwG strR (lay w [.inr dd, .inl (.cells #[.slice (some ⟨b, o, none⟩) q cap, vs] 96 (0, 0))]) (lay w [.inl (.cells #[.slice (some ⟨b, o, none⟩) q cap, vs] 96 (0, 0))]).heap.size (.slice (some ⟨g3, 0, none⟩) n1 cap3) (shfN m i)) (fun v8 _ => (intOf v8).toNat)
                  case atStart => exact ⟨n, d3, ⟨hj, Nat.le_refl _⟩, by go_num, rfl, H3.out⟩
                  case round =>
                    clear H3
                    obtain ⟨i1, dd, ⟨hi1, hi2⟩, rfl, rfl, hS⟩ := hrel
                    have HS := Lib.hid hS
                    clear hS
                    have hg4 : g3 < (lay w [.inr dd, .inl (.cells #[.slice (some ⟨b, o, none⟩) q cap, vs] 96 (0, 0))]).heap.size := by
                      obtain ⟨g5, c5, e5, _, h5, _⟩ := HS.out.form1 (by unfold shfN; simp; omega)
                      cases e5; exact h5
                    by_cases hji : j < i1
                    · obtain ⟨i', rfl⟩ : ∃ i', i1 = i' + 1 := ⟨i1 - 1, by omega⟩
                      obtain ⟨x', hx'⟩ : ∃ x', m[i']? = some x' := ⟨_, List.getElem?_eq_getElem (by rw [HN.out]; omega)⟩
                      obtain ⟨y', hy'⟩ := shfN_at (m := m) (j := i' + 1) (by rw [HN.out]; exact hi2)
                      have q1 : (lay w [.inr dd, .inl (.cells #[.slice (some ⟨b, o, none⟩) q cap, vs] 96 (0, 0))]).cell? ⟨g3, i', none⟩ = some (.string x') := by
                        have := HS.out.cell strOk (shfN_get hx') (j := 0) (u := .string x') rfl
                        simpa [strR] using this
                      have q2 : (lay w [.inr dd, .inl (.cells #[.slice (some ⟨b, o, none⟩) q cap, vs] 96 (0, 0))]).cell? ⟨g3, i' + 1, none⟩ = some (.string y') := by
                        have := HS.out.cell strOk hy' (j := 0) (u := .string y') rfl
                        simpa [strR] using this
                      have q3 : (lay w [.inr dd, .inl (.cells #[.slice (some ⟨b, o, none⟩) q cap, vs] 96 (0, 0))]).frozen? ⟨g3, i' + 1, none⟩ = false := HS.out.froz (i' + 1)
                      have HSt : Hid (OwG strR ((lay w [.inr dd, .inl (.cells #[.slice (some ⟨b, o, none⟩) q cap, vs] 96 (0, 0))]).setCell ⟨g3, i' + 1, none⟩ (.string x')) (lay w [.inl (.cells #[.slice (some ⟨b, o, none⟩) q cap, vs] 96 (0, 0))]).heap.size (.slice (some ⟨g3, 0, none⟩) n1 cap3) (shfN m i')) := Lib.hid (by
                        have := owG_store strOk HS.out (i := i' + 1) (j := 0) (x := y') (y := x') (u := .string x') hy' (by decide) rfl ?_
                        · rw [shfN_set hx'] at this; simpa [strR] using this
                        · exact HS.out.2 _ (List.mem_of_getElem? (shfN_get hx')))
                      have e1 : ((i' + 1 : Nat) : Int) = (i' : Int) + 1 := by omega
                      have e2 : ((i' : Int) + 1).toNat = i' + 1 := by omega
                      have z1 : (j : Int) < (i' : Int) + 1 := by omega
                      have z2 : (i' : Int) + 1 < (n1 : Int) := by have := HN1.out; omega
                      have z3 : (0 : Int) ≤ (i' : Int) + 1 := by omega
                      have z4 : IntKind.i64.wrap ((i' : Int) + 1 - 1) = (i' : Int) := by rw [IntWalk.i64_in _ (by omega)]; omega
                      clear hx' hy'
                      rw [e1]
                      go_wp2_with fail
                      go_roundw
                      case rel =>
                        obtain ⟨d5, hd5⟩ := bw_storeG (w := lay w [.inl (.cells #[.slice (some ⟨b, o, none⟩) q cap, vs] 96 (0, 0))]) (d := dd) (i := i' + 1) (v := .string x') hg30
                        exact ⟨i', d5, ⟨by omega, by omega⟩, rfl, hd5, by have h := HSt.out; rw [show (lay w [.inr dd, .inl (.cells #[.slice (some ⟨b, o, none⟩) q cap, vs] 96 (0, 0))]).setCell ⟨g3, i' + 1, none⟩ (.string x') = _ from hd5] at h; exact h⟩
                      case measure => simp [intOf]
                    · obtain rfl : i1 = j := by omega
                      obtain ⟨y', hy'⟩ := shfN_at (m := m) (j := i1) (by rw [HN.out]; exact hi2)
                      have q2 : (lay w [.inr dd, .inl (.cells #[.slice (some ⟨b, o, none⟩) q cap, vs] 96 (0, 0))]).cell? ⟨g3, i1, none⟩ = some (.string y') := by
                        have := HS.out.cell strOk hy' (j := 0) (u := .string y') rfl
                        simpa [strR] using this
                      have q3 : (lay w [.inr dd, .inl (.cells #[.slice (some ⟨b, o, none⟩) q cap, vs] 96 (0, 0))]).frozen? ⟨g3, i1, none⟩ = false := HS.out.froz i1
                      have z1 : ¬ (i1 : Int) < (i1 : Int) := by omega
                      have z2 : (i1 : Int) < (n1 : Int) := by have := HN1.out; omega
                      have z3 : (0 : Int) ≤ (i1 : Int) := by omega
                      have HSt : Hid (OwG strR ((lay w [.inr dd, .inl (.cells #[.slice (some ⟨b, o, none⟩) q cap, vs] 96 (0, 0))]).setCell ⟨g3, i1, none⟩ (.string zs)) (lay w [.inl (.cells #[.slice (some ⟨b, o, none⟩) q cap, vs] 96 (0, 0))]).heap.size (.slice (some ⟨g3, 0, none⟩) n1 cap3) (insN m i1 zs)) := Lib.hid (by
                        have := owG_store strOk HS.out (i := i1) (j := 0) (x := y') (y := zs) (u := .string zs) hy' (by decide) rfl HZw.out
                        rw [shfN_end zs (by rw [HN.out]; exact hi2)] at this; simpa [strR] using this)
                      clear hy'
                      go_wp2_with fail
                      go_roundw
                      case rel =>
                        obtain ⟨d5, hd5⟩ := bw_storeG (w := lay w [.inl (.cells #[.slice (some ⟨b, o, none⟩) q cap, vs] 96 (0, 0))]) (d := dd) (i := i1) (v := .string zs) hg30
                        exact ⟨k + 1, d5, insN m i1 zs, by omega, by go_num, hd5, by have h := HSt.out; rw [show (lay w [.inr dd, .inl (.cells #[.slice (some ⟨b, o, none⟩) q cap, vs] 96 (0, 0))]).setCell ⟨g3, i1, none⟩ (.string zs) = _ from hd5] at h; exact h, by have h := HZ.out; rw [HSk.out] at h; exact h⟩
                      case measure => simp [intOf]; omega
              · have z1 : ¬ (j : Int) < (n : Int) := by omega
                have HZ := Lib.hid (HY.out j hj (fun y hy => by rw [List.getElem?_eq_none (by rw [HN.out]; omega)] at hy; cases hy) HA.out)
                go_wp2_with (at_builtin; refine push_rec strOk rfl _ _ rfl (lay w [.inl (.cells #[.slice (some ⟨b, o, none⟩) q cap, vs] 96 (0, 0))]) _ ⟨#[]⟩ #[.string ⟨#[]⟩] 9 (posn w [dj.n, 1]) _ m (lay_belowG (A := [_, _]) (B := [.inl (.cells #[.slice (some ⟨b, o, none⟩) q cap, vs] 96 (0, 0))])) (owG_on (A := [_]) HI.out) (lay_get w _ 0 _ rfl) rfl rfl rfl HLm.out wf_empty ?_; intro v3 d3 hv3)
                obtain ⟨g3, cap3, hg3e, hg30, hg31, hg32, hg33⟩ := hv3.form1 (by simp)
                rw [← shfN_top, HN.out] at hv3
                rw [List.length_append, HN.out] at hg3e hg32
                change v3 = .slice (some ⟨g3, 0, none⟩) (n + 1) cap3 at hg3e
                change n + 1 ≤ cap3 at hg32
                subst hg3e
                obtain ⟨n1, hn2⟩ : ∃ n1, n + 1 = n1 := ⟨_, rfl⟩
                rw [hn2] at hv3 hg32 ⊢
                have hn3 : n1 ≤ 1000000001 := by omega
                have w1 : IntKind.i64.wrap ((n1 : Int) - 1) = (n : Int) := by rw [IntWalk.i64_in _ (by omega)]; omega
                have HN1 := Lib.hid hn2
                clear hn2
                have H3 := Lib.hid hv3
                clear hv3
                rename_i K hK
                go_simp
                refine hK _ _ ?_
                clear hK K
                go_wp2_with fail
                clear HI
                go_loopw [8] (fun v8 wr => ∃ (i : Nat) (dd : Ext), (j ≤ i ∧ i ≤ n) ∧ v8 = .int .i64 (i : Int) ∧ wr = lay w [.inr dd, .inl (.cells #[.slice (some ⟨b, o, none⟩) q cap, vs] 96 (0, 0))] ∧ OwG strR (lay w [.inr dd, .inl (.cells #[.slice (some ⟨b, o, none⟩) q cap, vs] 96 (0, 0))]) (lay w [.inl (.cells #[.slice (some ⟨b, o, none⟩) q cap, vs] 96 (0, 0))]).heap.size (.slice (some ⟨g3, 0, none⟩) n1 cap3) (shfN m i)) (fun v8 _ => (intOf v8).toNat)
                case atStart => exact ⟨n, d3, ⟨hj, Nat.le_refl _⟩, by go_num, rfl, H3.out⟩
                case round =>
                  clear H3
                  obtain ⟨i1, dd, ⟨hi1, hi2⟩, rfl, rfl, hS⟩ := hrel
                  have HS := Lib.hid hS
                  clear hS
                  have hg4 : g3 < (lay w [.inr dd, .inl (.cells #[.slice (some ⟨b, o, none⟩) q cap, vs] 96 (0, 0))]).heap.size := by
                    obtain ⟨g5, c5, e5, _, h5, _⟩ := HS.out.form1 (by unfold shfN; simp; omega)
                    cases e5; exact h5
                  by_cases hji : j < i1
                  · exact absurd hji (by omega)
                  · obtain rfl : i1 = j := by omega
                    obtain ⟨y', hy'⟩ := shfN_at (m := m) (j := i1) (by rw [HN.out]; exact hi2)
                    have q2 : (lay w [.inr dd, .inl (.cells #[.slice (some ⟨b, o, none⟩) q cap, vs] 96 (0, 0))]).cell? ⟨g3, i1, none⟩ = some (.string y') := by
                      have := HS.out.cell strOk hy' (j := 0) (u := .string y') rfl
                      simpa [strR] using this
                    have q3 : (lay w [.inr dd, .inl (.cells #[.slice (some ⟨b, o, none⟩) q cap, vs] 96 (0, 0))]).frozen? ⟨g3, i1, none⟩ = false := HS.out.froz i1
                    have z1 : ¬ (i1 : Int) < (i1 : Int) := by omega
                    have z2 : (i1 : Int) < (n1 : Int) := by have := HN1.out; omega
                    have z3 : (0 : Int) ≤ (i1 : Int) := by omega
                    have HSt : Hid (OwG strR ((lay w [.inr dd, .inl (.cells #[.slice (some ⟨b, o, none⟩) q cap, vs] 96 (0, 0))]).setCell ⟨g3, i1, none⟩ (.string zs)) (lay w [.inl (.cells #[.slice (some ⟨b, o, none⟩) q cap, vs] 96 (0, 0))]).heap.size (.slice (some ⟨g3, 0, none⟩) n1 cap3) (insN m i1 zs)) := Lib.hid (by
                      have := owG_store strOk HS.out (i := i1) (j := 0) (x := y') (y := zs) (u := .string zs) hy' (by decide) rfl HZw.out
                      rw [shfN_end zs (by rw [HN.out]; exact hi2)] at this; simpa [strR] using this)
                    clear hy'
                    go_wp2_with fail
                    go_roundw
                    case rel =>
                      obtain ⟨d5, hd5⟩ := bw_storeG (w := lay w [.inl (.cells #[.slice (some ⟨b, o, none⟩) q cap, vs] 96 (0, 0))]) (d := dd) (i := i1) (v := .string zs) hg30
                      exact ⟨k + 1, d5, insN m i1 zs, by omega, by go_num, hd5, by have h := HSt.out; rw [show (lay w [.inr dd, .inl (.cells #[.slice (some ⟨b, o, none⟩) q cap, vs] 96 (0, 0))]).setCell ⟨g3, i1, none⟩ (.string zs) = _ from hd5] at h; exact h, by have h := HZ.out; rw [HSk.out] at h; exact h⟩
                    case measure => simp [intOf]; omega
        · obtain rfl : k = nt := by omega
          have HSf : Hid (nmsL (l.take i) ++ (p.ts.take k).map TrkV.s = nmsL (l.take (i + 1))) := Lib.hid (by rw [HSn.out, ← HNt.out, List.take_length]; rfl)
          have y1 : ¬ (k : Int) < (k : Int) := by omega
          go_wp2_with fail
          go_roundw
          case rel => exact ⟨i + 1, dk, m, by omega, by go_num, rfl, HI.out, by rw [← HSf.out]; exact HT.out⟩
          case measure => simp [intOf]; omega
    · obtain rfl : i = q := by omega
      have hT := HT.out
      rw [show l.take i = l by rw [← HQ.out]; exact List.take_length] at hT
      have hm := hT.eq
      subst hm
      have x1 : ¬ (i : Int) < (i : Int) := by omega
      clear hT HT
      go_wp2_with fail
      go_ret
      exact strPost_of HO.out (lay_ex _ _)
end Go.Proofs.YtnnmfdeeicpdlaaGreat

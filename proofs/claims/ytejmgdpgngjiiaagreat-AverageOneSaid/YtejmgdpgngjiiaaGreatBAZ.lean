/- Contracts and plain laws, several texts in one: OnP; CpR; RpP; MkS; RowS; RpC; Rep -/
import Derived.Test.YtejmgdpgngjiiaaGreatProg
import Derived.WalkKit
import Derived.WalkSpells
import Derived.WalkLawsBesides
import Derived.Lib.Hide
import Derived.BigQuiet
import Derived.Laws.IdiomCopy
import Derived.Laws.CopyOwn
import Derived.Laws.CopyRow
import Derived.Laws.MakeOwn
import Derived.Laws.Entries
import Derived.Test.YtejmgdpgngjiiaaGreatBAA
import Derived.Test.YtejmgdpgngjiiaaGreatBAB
import Derived.Test.YtejmgdpgngjiiaaGreatBAC
import Derived.Test.YtejmgdpgngjiiaaGreatBAS
import Derived.Test.YtejmgdpgngjiiaaGreatBAV
import Derived.Test.YtejmgdpgngjiiaaGreatBAX
/- The average of one sight, repeated: the plain law. No walk. -/
namespace Go.Proofs.YtejmgdpgngjiiaaGreat
open Go.RowKit

variable {s : SgV} {n d : Int} {m : Nat}
theorem rep_get {i : Nat} (h : i < m) : getS (List.replicate m s) i = s := by
  unfold getS
  rw [List.getElem?_replicate, if_pos h]; rfl
theorem rep_fst (h : 1 ≤ m) : fstS (List.replicate m s) = s := by rw [fstS_get, rep_get (by omega)]
theorem one_gvn (hv : sgB s = true) (h1 : 1 ≤ m) (h2 : m ≤ 10) (hf : fracB n d = true) (hs : slpB n d = true) : gvnE (List.replicate m s) n d 3 = 0 := by
  unfold gvnE
  rw [if_neg, if_neg, if_neg, if_neg, if_neg]
  · intro h
    obtain ⟨a, ha, h3⟩ := List.any_eq_true.1 h
    rw [(List.mem_replicate.1 ha).2] at h3
    unfold farS at h3
    rw [rep_fst h1] at h3
    simp only [decide_eq_true_eq] at h3
    omega
  · intro h
    obtain ⟨a, ha, h3⟩ := List.any_eq_true.1 h
    rw [(List.mem_replicate.1 ha).2, rep_fst h1, show likB s s = true from decide_eq_true ⟨rfl, rfl, rfl, rfl, rfl, rfl, rfl⟩] at h3
    cases h3
  · rintro (h | h)
    · rw [hs] at h; cases h
    · omega
  · rw [List.length_replicate]; omega
  · rintro (h | h)
    · obtain ⟨a, ha, h3⟩ := List.any_eq_true.1 h
      rw [(List.mem_replicate.1 ha).2, hv] at h3
      cases h3
    · rw [hf] at h; cases h
theorem one_out (h1 : 1 ≤ m) (hd : 0 < d) : outS (List.replicate m s) n d 3 = [] := by
  refine outI_same (c := s.hs) (fun x hx => ?_) 3
  obtain ⟨i, hi, rfl⟩ := List.getElem_of_mem hx
  have hi2 := hi
  rw [resS_len, List.length_replicate] at hi2
  rw [← nth_lt hi]
  unfold resS
  rw [resK_nth _ _ _ _ (by rw [tsS_len, List.length_replicate]; exact hi2), tsS_nth (by rw [List.length_replicate]; exact hi2), rdS_nth (by rw [List.length_replicate]; exact hi2), rep_get hi2, rep_fst h1, Int.sub_self, res_one _ _ hd]
theorem one_acc : ∀ k, k ≤ m → (accS (List.replicate m s) [] k).n = k ∧ (accS (List.replicate m s) [] k).ti = 0 ∧ (accS (List.replicate m s) [] k).re = k * s.hs ∧ (accS (List.replicate m s) [] k).wi = k * s.wi ∧
    (accS (List.replicate m s) [] k).be = (if k = 0 then 0 else mx 0 (midI s - s.lo)) ∧ (accS (List.replicate m s) [] k).af = (if k = 0 then 0 else mx 0 (s.hi - midI s))
  | 0, _ => by simp [accS]
  | k + 1, hk => by
    obtain ⟨h1, h2, h3, h4, h5, h6⟩ := one_acc k (by omega)
    unfold accS
    rw [if_neg (by simp)]
    dsimp only
    have q0 : nth (tsS (List.replicate m s)) k = 0 := by
      rw [tsS_nth (by rw [List.length_replicate]; omega), rep_get (by omega), rep_fst (by omega), Int.sub_self]
    rw [q0, h1, h2, h3, h4, h5, h6, rep_get (by omega), if_neg (show ¬ k + 1 = 0 by omega), if_neg (show ¬ k + 1 = 0 by omega)]
    refine ⟨by omega, by omega, ?_, ?_, ?_, ?_⟩
    · rw [show ((k + 1 : Nat) : Int) = (k : Int) + 1 by omega, Int.add_mul]; omega
    · rw [show ((k + 1 : Nat) : Int) = (k : Int) + 1 by omega, Int.add_mul]; omega
    · split <;> simp only [mx_eq] <;> omega
    · split <;> simp only [mx_eq] <;> omega
theorem one_men (hv : SgIs s) (h1 : 1 ≤ m) (hd : 0 < d) : menS (List.replicate m s) n d (accS (List.replicate m s) [] m) = { s with wi := s.wi + 1 } := by
  obtain ⟨e1, e2, e3, e4, e5, e6⟩ := one_acc (s := s) m (Nat.le_refl m)
  have hm := hv.t.mid
  have hA : atS (accS (List.replicate m s) [] m) = 0 := by unfold atS; rw [e2, Int.zero_ediv]
  have hH := men_hs (l := List.replicate m s) (n := n) (d := d) (a := accS (List.replicate m s) [] m) (by omega) hd
  rw [hA, e1, e2, e3, mn_one (by omega) hd] at hH
  have hW : (menS (List.replicate m s) n d (accS (List.replicate m s) [] m)).wi = s.wi + 1 := by
    show mnWi _ _ = _
    rw [e1, e4, wi_one (by omega)]
  have hL : (menS (List.replicate m s) n d (accS (List.replicate m s) [] m)).lo = s.lo := by
    show midI (fstS (List.replicate m s)) + atS _ - AccV.be _ = _
    rw [hA, e5, rep_fst h1, if_neg (by omega), mx_eq]; omega
  have hU : (menS (List.replicate m s) n d (accS (List.replicate m s) [] m)).hi = s.hi := by
    show midI (fstS (List.replicate m s)) + atS _ + AccV.af _ = _
    rw [hA, e6, rep_fst h1, if_neg (by omega), mx_eq]; omega
  have hR : menS (List.replicate m s) n d (accS (List.replicate m s) [] m) = { fstS (List.replicate m s) with hs := (menS (List.replicate m s) n d (accS (List.replicate m s) [] m)).hs, wi := (menS (List.replicate m s) n d (accS (List.replicate m s) [] m)).wi, lo := (menS (List.replicate m s) n d (accS (List.replicate m s) [] m)).lo, hi := (menS (List.replicate m s) n d (accS (List.replicate m s) [] m)).hi } := rfl
  rw [hR, hH, hW, hL, hU, rep_fst h1]
theorem one_law (hv : sgB s = true) (hw : s.wi ≠ 60000) (h1 : 1 ≤ m) (h2 : m ≤ 10) (hf : fracB n d = true) (hs : slpB n d = true) :
    sgtE (List.replicate m s) n d 3 = 0 ∧ sgtS (List.replicate m s) n d 3 = { s with wi := s.wi + 1 } ∧ sgtL (List.replicate m s) n d 3 = [] := by
  have hd : 0 < d := by have := (fracB_ok hf).d1; omega
  have hI := sgB_iff.1 hv
  have hM := one_men (n := n) (d := d) hI h1 hd
  have hO := one_out (s := s) (n := n) h1 hd
  have hE : sgtE (List.replicate m s) n d 3 = 0 := by
    unfold sgtE
    rw [one_gvn hv h1 h2 hf hs, if_neg (by decide), hO, List.length_replicate, hM, if_pos]
    refine sgB_iff.2 ⟨hI.nm, hI.limb, hI.tm, hI.hs, ?_, hI.hz, hI.te, hI.pr, hI.ey, hI.art, hI.sho, hI.no⟩
    have := hI.wi
    show 0 ≤ s.wi + 1 ∧ s.wi + 1 ≤ 60000
    omega
  refine ⟨hE, ?_, ?_⟩
  · unfold sgtS
    rw [if_pos hE, hO, List.length_replicate, hM]
  · unfold sgtL
    rw [if_pos hE, hO]
end Go.Proofs.YtejmgdpgngjiiaaGreat
/- The builtin copy over elements of more than one cell. -/
namespace Go.Proofs.YtejmgdpgngjiiaaGreat
open Go.RowKit

/-- All is read before anything is written: n elements of k cells each. -/
theorem run_copy_rec {P : Program} (w : World) (dT sT ty elem : TypeId) (b o dLen dCap : Nat) (a : Addr) (sLen sCap n k : Nat) (cs : List Value)
    (hu : P.underlying dT = some (.slice elem)) (hs : (P.info? elem).map (·.size) = some k) (hn : Nat.min sLen dLen = n) (hl0 : cs.length = n * k)
    (hsrc : ∀ j v, cs[j]? = some v → w.cell? (a.add j) = some v) (hc : ∀ j, j < cs.length → (w.cell? ⟨b, o + j, none⟩).isSome = true) (hf : ∀ j, j < cs.length → w.frozen? ⟨b, o + j, none⟩ = false) (h1 : ∀ v ∈ cs, v.oneCell' = true) :
    (Builtin.copy_ #[dT, sT] ty #[.slice (some ⟨b, o, none⟩) dLen dCap, .slice (some a) sLen sCap]).run P w = .ok (goInt n) (w.setCells b o cs) := by
  have hl := run_loadCells_list (P := P) w a cs hsrc
  have hst := run_storeCells_cells (P := P) b o cs 0 w (by simpa using hc) (by simpa using hf) h1
  rw [hl0] at hl
  cases hq : P.info? elem with
  | none => simp [hq] at hs
  | some i =>
    have hi : i.size = k := by simpa [hq] using hs
    simp [Builtin.copy_, run_underlying hu, Builtin.lenOf, Builtin.firstCells, sizeOf, typeInfo, hq, hi, hn, hl, hst]
theorem run_copy_recRow {P : Program} (w : World) (dT sT ty elem : TypeId) (g o dLen dCap : Nat) (a : Addr) (sLen sCap n k : Nat) (cur : Array Value) (t : TypeId) (cs : List Value)
    (hu : P.underlying dT = some (.slice elem)) (hs : (P.info? elem).map (·.size) = some k)
    (hg : w.heap[g]? = some (.cells cur t (0, 0))) (hn : Nat.min sLen dLen = n) (hl0 : cs.length = n * k)
    (hsrc : ∀ j v, cs[j]? = some v → w.cell? (a.add j) = some v) (hfit : o + cs.length ≤ cur.size) (h1 : ∀ v ∈ cs, v.oneCell' = true) :
    (Builtin.copy_ #[dT, sT] ty #[.slice (some ⟨g, o, none⟩) dLen dCap, .slice (some a) sLen sCap]).run P w =
      .ok (goInt n) (w.setRow g (cur.toList.take o ++ cs ++ cur.toList.drop (o + cs.length)).toArray) := by
  have hl := run_loadCells_list (P := P) w a cs hsrc
  have hst := run_storeCells_at P g o t cs 0 cur w hg (by simpa using hfit) h1
  cases hq : P.info? elem with
  | none => simp [hq] at hs
  | some i =>
    have hi : i.size = k := by simpa [hq] using hs
    rw [hl0] at hl
    simp [Builtin.copy_, run_underlying hu, Builtin.lenOf, Builtin.firstCells, sizeOf, typeInfo, hq, hi, hn, hl, hst]
/-- A step of a region: a copy of records into a row of the call's own. -/
theorem step_copy_rec {P : Program} {ops : Array Oper} {o : Oper} {a : Act} {w : World} {K : Act → World → Prop} {Q : Exit → Act → World → Prop} {E : Prop} (hgd : o.guard = none) (d s : Operand) (dT sT : TypeId)
    (ho : o.op = .call { callee := .builtin .copy, args := #[d, s], argTypes := #[dT, sT] }) (elem : TypeId) (k n : Nat) (hu : P.underlying dT = some (.slice elem)) (hsz : (P.info? elem).map (·.size) = some k)
    (ad : Addr) (dLen dCap sLen sCap : Nat) (g off : Nat) (hd : a.eval d = .slice (some ⟨g, off, none⟩) dLen dCap) (hs : a.eval s = .slice (some ad) sLen sCap)
    (cur : List Value) (t : TypeId) (hg : w.heap[g]? = some (.cells cur.toArray t (0, 0))) (cs : List Value) (hn : Nat.min sLen dLen = n) (hl0 : cs.length = n * k)
    (hsrc : ∀ j v, cs[j]? = some v → w.cell? (ad.add j) = some v)
    (hfit : off + cs.length ≤ cur.length) (h1 : ∀ v ∈ cs, v.oneCell' = true) (B : Nat) (w0 : World) (hb : Below B w0 w) (hBg : B ≤ g)
    (h : ∀ w', Hid (w'.heap[g]? = some (.cells (splice cur off cs).toArray t (0, 0))) → Below B w0 w' → K (a.put o.dst (goInt n)) w') :
    if Region.wanted o (yielded ops a.tmps) = true then Oper.wp P o a w K Q else E := by
  have hw : Region.wanted o (yielded ops a.tmps) = true := by simp [Region.wanted, hgd]
  rw [if_pos hw]
  have hrun := run_copy_recRow (P := P) w dT sT o.type elem g off dLen dCap ad sLen sCap n k cur.toArray t cs hu hsz hg hn hl0 hsrc (by simpa using hfit) h1
  unfold Oper.wp
  simp [execOp, ho, resolve, invoke, builtin, hd, hs, hrun, Result.andThen]
  exact h _ (show _ = _ by simpa [splice] using setRow_heap w g _ _ t _ hg) (below_setRow hb hBg _)
/-- The same at a call of a plain list. -/
theorem wpList_copy_rec {P : Program} {ops : Array Oper} {rest : List Oper} {o : Oper} {a : Act} {w : World} {Q : Exit → Act → World → Prop} (hgd : o.guard = none) (d s : Operand) (dT sT : TypeId)
    (ho : o.op = .call { callee := .builtin .copy, args := #[d, s], argTypes := #[dT, sT] }) (elem : TypeId) (k n : Nat) (hu : P.underlying dT = some (.slice elem)) (hsz : (P.info? elem).map (·.size) = some k)
    (ad : Addr) (dLen dCap sLen sCap : Nat) (g off : Nat) (hd : a.eval d = .slice (some ⟨g, off, none⟩) dLen dCap) (hs : a.eval s = .slice (some ad) sLen sCap)
    (cur : List Value) (t : TypeId) (hg : w.heap[g]? = some (.cells cur.toArray t (0, 0))) (cs : List Value) (hn : Nat.min sLen dLen = n) (hl0 : cs.length = n * k)
    (hsrc : ∀ j v, cs[j]? = some v → w.cell? (ad.add j) = some v)
    (hfit : off + cs.length ≤ cur.length) (h1 : ∀ v ∈ cs, v.oneCell' = true) (B : Nat) (w0 : World) (hb : Below B w0 w) (hBg : B ≤ g)
    (h : ∀ w', Hid (w'.heap[g]? = some (.cells (splice cur off cs).toArray t (0, 0))) → Below B w0 w' → wpList P ops Q rest (a.put o.dst (goInt n)) w') :
    wpList P ops Q (o :: rest) a w := by
  refine wpList_plain hgd fun K hK => ?_
  have hrun := run_copy_recRow (P := P) w dT sT o.type elem g off dLen dCap ad sLen sCap n k cur.toArray t cs hu hsz hg hn hl0 hsrc (by simpa using hfit) h1
  unfold Oper.wp
  simp [execOp, ho, resolve, invoke, builtin, hd, hs, hrun, Result.andThen]
  exact hK _ _ (h _ (show _ = _ by simpa [splice] using setRow_heap w g _ _ t _ hg) (below_setRow hb hBg _))
end Go.Proofs.YtejmgdpgngjiiaaGreat
/- What slices.Repeat lays down: rows of one sight, then of the zero sight. No walk. -/
namespace Go.Proofs.YtejmgdpgngjiiaaGreat
open Go.RowKit

def zsR : SgV := ⟨⟨#[]⟩, 0, 0, 0, 0, 0, 0, 0, 0, 0, 0⟩
def flR (s : SgV) (k : Nat) : List Value := (List.replicate k s).flatMap SgV.cells
theorem flR_len (s : SgV) : ∀ k, (flR s k).length = k * 11
  | 0 => rfl
  | k + 1 => by
    have h := flR_len s k
    unfold flR at *
    rw [List.replicate_succ, List.flatMap_cons, List.length_append, h]
    show 11 + k * 11 = _
    omega
theorem flR_add (s : SgV) (a b : Nat) : flR s (a + b) = flR s a ++ flR s b := by
  unfold flR
  rw [← List.replicate_append_replicate, List.flatMap_append]
/-- The row with n sights done. -/
def rowR (s : SgV) (n m : Nat) : List Value := flR s n ++ flR zsR (m - n)
theorem rowR_len (s : SgV) {n m : Nat} (h : n ≤ m) : (rowR s n m).length = m * 11 := by
  unfold rowR
  rw [List.length_append, flR_len, flR_len]; omega
theorem rowR_splice (s : SgV) {n c m : Nat} (h : n + c ≤ m) : splice (rowR s n m) (n * 11) (flR s c) = rowR s (n + c) m := by
  unfold splice rowR
  have e1 : (flR s n ++ flR zsR (m - n)).take (n * 11) = flR s n := by
    rw [← flR_len s n, List.take_left]
  have e2 : (flR s n ++ flR zsR (m - n)).drop (n * 11 + (flR s c).length) = flR zsR (m - (n + c)) := by
    rw [show m - n = c + (m - (n + c)) by omega, flR_add zsR c, ← List.append_assoc, flR_len s c, show n * 11 + c * 11 = (flR s n ++ flR zsR c).length by rw [List.length_append, flR_len, flR_len], List.drop_left]
  rw [e1, e2, flR_add s n c, List.append_assoc]
theorem rowR_done (s : SgV) (m : Nat) : rowR s m m = flR s m := by
  unfold rowR
  rw [Nat.sub_self]
  exact List.append_nil _
theorem rowR_src (s : SgV) {n c m : Nat} (hc : c ≤ n) {j : Nat} {v : Value} (h : (flR s c)[j]? = some v) : (rowR s n m)[j]? = some v := by
  have hj : j < (flR s c).length := (List.getElem?_eq_some_iff.1 h).1
  unfold rowR
  rw [show n = c + (n - c) by omega, flR_add s c, List.append_assoc, List.getElem?_append_left hj]
  exact h
end Go.Proofs.YtejmgdpgngjiiaaGreat
/- Making rows of zero sights. -/
namespace Go.Proofs.YtejmgdpgngjiiaaGreat
open Go.RowKit

theorem info_sgz : (Tryz.prog.info? 68).map (fun i => (i.zero.map (fun z => z.cells.toList), i.size, i.bytes)) = some (some zsR.cells, 11, 96) := by kernel_rfl
theorem made0 : madeCells zsR.cells.toArray (0 * 11) = (flR zsR 0).toArray := by kernel_rfl
theorem made1 : madeCells zsR.cells.toArray (1 * 11) = (flR zsR 1).toArray := by kernel_rfl
theorem made2 : madeCells zsR.cells.toArray (2 * 11) = (flR zsR 2).toArray := by kernel_rfl
theorem made3 : madeCells zsR.cells.toArray (3 * 11) = (flR zsR 3).toArray := by kernel_rfl
theorem made4 : madeCells zsR.cells.toArray (4 * 11) = (flR zsR 4).toArray := by kernel_rfl
theorem made5 : madeCells zsR.cells.toArray (5 * 11) = (flR zsR 5).toArray := by kernel_rfl
theorem made6 : madeCells zsR.cells.toArray (6 * 11) = (flR zsR 6).toArray := by kernel_rfl
theorem made7 : madeCells zsR.cells.toArray (7 * 11) = (flR zsR 7).toArray := by kernel_rfl
theorem made8 : madeCells zsR.cells.toArray (8 * 11) = (flR zsR 8).toArray := by kernel_rfl
theorem made9 : madeCells zsR.cells.toArray (9 * 11) = (flR zsR 9).toArray := by kernel_rfl
theorem made10 : madeCells zsR.cells.toArray (10 * 11) = (flR zsR 10).toArray := by kernel_rfl
theorem made_sg {z : Value} (hz : z.cells.toList = zsR.cells) {m : Nat} (h2 : m ≤ 10) : madeCells z.cells (m * 11) = (flR zsR m).toArray := by
  have hz2 : z.cells = zsR.cells.toArray := by rw [← hz]
  rw [hz2]
  by_cases c0 : m = 0
  · subst c0; exact made0
  by_cases c1 : m = 1
  · subst c1; exact made1
  by_cases c2 : m = 2
  · subst c2; exact made2
  by_cases c3 : m = 3
  · subst c3; exact made3
  by_cases c4 : m = 4
  · subst c4; exact made4
  by_cases c5 : m = 5
  · subst c5; exact made5
  by_cases c6 : m = 6
  · subst c6; exact made6
  by_cases c7 : m = 7
  · subst c7; exact made7
  by_cases c8 : m = 8
  · subst c8; exact made8
  by_cases c9 : m = 9
  · subst c9; exact made9
  by_cases c10 : m = 10
  · subst c10; exact made10
  omega
theorem make_sg {m : Nat} (h2 : m ≤ 10) (W : World) :
    (Instr.makeSlice 64 (.int .i64 (m : Int)) (.int .i64 (m : Int))).run Tryz.prog W = .ok (.slice (some ⟨W.heap.size, 0, none⟩) m m) (W.alloc (.cells (flR zsR m).toArray 68)) := by
  have hinf := info_sgz
  cases hq : Tryz.prog.info? 68 with
  | none => rw [hq] at hinf; cases hinf
  | some i =>
    rw [hq] at hinf
    simp only [Option.map_some, Option.some.injEq, Prod.mk.injEq] at hinf
    obtain ⟨hz, hs, hb⟩ := hinf
    cases hzz : i.zero with
    | none => rw [hzz] at hz; cases hz
    | some z =>
      rw [hzz] at hz
      simp only [Option.map_some, Option.some.injEq] at hz
      have hr := run_make (P := Tryz.prog) W 64 68 i z sgROk.und hq hzz .i64 .i64 m m (by omega) (by omega) (by rw [hb]; omega) (by omega)
      simp only [Int.toNat_natCast] at hr
      rw [hr, hs, made_sg hz h2]
end Go.Proofs.YtejmgdpgngjiiaaGreat
/- An append to a row of records, at a step of a region that draws its order. No function of the program. -/
namespace Go.Proofs.YtejmgdpgngjiiaaGreat
open Go.RowKit
variable {α : Type} {R : RecT α}

theorem sop_append (hR : RecOk R) {ops : Array Oper} {o : Oper} {a : Act} {K : Act → World → Prop} {E : Prop} (hgd : o.guard = none) (s x : Operand)
    (ho : o.op = .call { callee := .builtin .append, args := #[s, x], argTypes := #[R.S, R.S] })
    (W0 wb : World) (v1 : Value) (l1 : List α) (ad : Addr) (n c : Nat) (l2 : List α) (hw : Below W0.heap.size W0 wb) (hown : OwG R wb W0.heap.size v1 l1)
    (hl : n = l2.length) (hwf : ∀ y ∈ l2, R.wf y) (hnews : ∀ (j : Nat) u, (l2.flatMap R.enc)[j]? = some u → wb.cell? (ad.add j) = some u) (hs : a.eval s = v1) (hx : a.eval x = .slice (some ad) n c) (hn : l1.length + l2.length ≤ 1000000000)
    (h : ∀ v' d, OwG R (bw W0 d) W0.heap.size v' (l1 ++ l2) → (∀ k, k < wb.heap.size → v1.ownBlock ≠ some k → (bw W0 d).heap[k]? = wb.heap[k]?) → K (a.put o.dst v') (bw W0 d)) :
    if Region.wanted o (yielded ops a.tmps) = true then sOp Tryz.prog o a K wb else E := by
  have hwn : Region.wanted o (yielded ops a.tmps) = true := by simp [Region.wanted, hgd]
  rw [if_pos hwn]
  obtain ⟨i, z, hi, hz0, hz1, hz2, hz3⟩ := hR.info
  have hM : maxLen = 9223372036854775807 := by decide
  have hb2 : (l1.length + l2.length) * R.bytes ≤ 1000000000 * 1000 := Nat.mul_le_mul hn hR.small
  subst hl
  obtain ⟨v', w', hr, hown', hg, _⟩ := run_append_own (P := Tryz.prog) wb W0.heap.size R.S o.type R.E i z R.k R.bytes hR.und hi hz0 hz1 hz2 hz3 hR.pos v1 l1.length (l1.flatMap R.enc) hown.1 ad l2.length c (l2.flatMap R.enc) (flat_len hR l2) hnews (fun u hu => by
    obtain ⟨y, _, hy⟩ := List.mem_flatMap.1 hu
    exact hR.one y u hy) (by omega) (by omega) hw.size
  obtain ⟨d, hd⟩ := bw_of (w := W0) (w' := w') (hw.grown hg hw.size (fun k hk => (hown.1.lt k hk).1))
  subst hd
  unfold sOp execOp
  simp only [ho, resolve, invoke, builtin, Sem.run_bind, Sem.run_pure, Result.andThen_ok, List.map_toArray, List.map_cons, List.map_nil, hs, hx, hr]
  refine h v' d ⟨by rw [List.length_append, List.flatMap_append]; exact hown', fun y hy => ?_⟩ (fun k hk hne => hg.block k hk (fun e => hne e.symm))
  rcases List.mem_append.1 hy with hy | hy
  · exact hown.2 y hy
  · exact hwf y hy
theorem addr_add (b o j : Nat) : (⟨b, o, none⟩ : Addr).add j = ⟨b, o + j, none⟩ := by
  unfold Addr.add
  split
  · rename_i h0
    have : j = 0 := by simpa using h0
    subst this; rfl
  · rfl
theorem news_sl (hR : RecOk R) {w : World} {ad : Addr} {n c : Nat} {l2 : List α} (h : SlG R w (.slice (some ad) n c) l2) : ∀ (j : Nat) u, (l2.flatMap R.enc)[j]? = some u → w.cell? (ad.add j) = some u := by
  intro j u hu
  obtain ⟨a', cap', he, hcc, hwf, hcell⟩ := h
  simp only [Value.slice.injEq] at he
  obtain ⟨rfl, rfl, rfl⟩ := he
  have hj : j < l2.length * R.k := by have := (List.getElem?_eq_some_iff.1 hu).1; rw [flat_len hR] at this; exact this
  have hne : l2 ≠ [] := by intro e; rw [e] at hj; simp at hj
  obtain ⟨b, o', e, _, hr⟩ := hcell hne
  cases e
  have hq : j / R.k < l2.length := Nat.div_lt_of_lt_mul (by rw [Nat.mul_comm]; exact hj)
  have hm : j % R.k < R.k := Nat.mod_lt _ hR.pos
  have e1 : j = j / R.k * R.k + j % R.k := by rw [Nat.mul_comm]; exact (Nat.div_add_mod j R.k).symm
  have hx' : l2[j / R.k]? = some l2[j / R.k] := List.getElem?_eq_getElem hq
  rw [e1, flat_get hR hx' hm] at hu
  have h3 := hr _ _ hx' _ _ hu
  rw [← e1] at h3
  rw [addr_add]
  exact h3
/-- A whole slice. -/
theorem sop_sl (hR : RecOk R) {ops : Array Oper} {o : Oper} {a : Act} {K : Act → World → Prop} {E : Prop} (hgd : o.guard = none) (s x : Operand)
    (ho : o.op = .call { callee := .builtin .append, args := #[s, x], argTypes := #[R.S, R.S] })
    (W0 wb : World) (v1 : Value) (l1 : List α) (ad : Addr) (n c : Nat) (l2 : List α) (hw : Below W0.heap.size W0 wb) (hown : OwG R wb W0.heap.size v1 l1)
    (hsrc : SlG R wb (.slice (some ad) n c) l2) (hs : a.eval s = v1) (hx : a.eval x = .slice (some ad) n c) (hn : l1.length + l2.length ≤ 1000000000)
    (h : ∀ v' d, OwG R (bw W0 d) W0.heap.size v' (l1 ++ l2) → (∀ k, k < wb.heap.size → v1.ownBlock ≠ some k → (bw W0 d).heap[k]? = wb.heap[k]?) → K (a.put o.dst v') (bw W0 d)) :
    if Region.wanted o (yielded ops a.tmps) = true then sOp Tryz.prog o a K wb else E :=
  sop_append hR hgd s x ho W0 wb v1 l1 ad n c l2 hw hown (by obtain ⟨_, _, e, _⟩ := hsrc; cases e; rfl) hsrc.wf (news_sl hR hsrc) hs hx hn h
/-- Nothing of a nil slice. -/
theorem sop_nil (hR : RecOk R) {ops : Array Oper} {o : Oper} {a : Act} {K : Act → World → Prop} {E : Prop} (hgd : o.guard = none) (s x : Operand)
    (ho : o.op = .call { callee := .builtin .append, args := #[s, x], argTypes := #[R.S, R.S] })
    (W0 wb : World) (v1 : Value) (l1 : List α) (hw : Below W0.heap.size W0 wb) (hown : OwG R wb W0.heap.size v1 l1) (hs : a.eval s = v1) (hx : a.eval x = .slice none 0 0)
    (h : ∀ d, wb = bw W0 d → K (a.put o.dst v1) wb) :
    if Region.wanted o (yielded ops a.tmps) = true then sOp Tryz.prog o a K wb else E := by
  have hwn : Region.wanted o (yielded ops a.tmps) = true := by simp [Region.wanted, hgd]
  rw [if_pos hwn]
  obtain ⟨i, z, hi, hz0, hz1, hz2, hz3⟩ := hR.info
  obtain ⟨d, hd⟩ := bw_of hw
  have hr := run_append_owned_none (P := Tryz.prog) (w := wb) W0.heap.size R.S o.type R.E i R.k hR.und hi v1 l1.length (l1.flatMap R.enc) hown.1
  unfold sOp execOp
  simp only [ho, resolve, invoke, builtin, Sem.run_bind, Sem.run_pure, Result.andThen_ok, List.map_toArray, List.map_cons, List.map_nil, hs, hx, hr]
  exact h d hd
/-- One record that lies in a block of its own. -/
theorem sop_rec (hR : RecOk R) {ops : Array Oper} {o : Oper} {a : Act} {K : Act → World → Prop} {E : Prop} (hgd : o.guard = none) (s x : Operand)
    (ho : o.op = .call { callee := .builtin .append, args := #[s, x], argTypes := #[R.S, R.S] })
    (W0 wb : World) (v1 : Value) (l1 : List α) (c : α) (cs : Array Value) (te : TypeId) (xb : Nat) (hw : Below W0.heap.size W0 wb) (hown : OwG R wb W0.heap.size v1 l1)
    (hcell : wb.heap[xb]? = some (.cells cs te (0, 0))) (hcs : cs.toList = R.enc c) (hs : a.eval s = v1) (hx : a.eval x = .slice (some ⟨xb, 0, none⟩) 1 1) (hn : l1.length ≤ 100000000) (hc : R.wf c)
    (h : ∀ v' d, OwG R (bw W0 d) W0.heap.size v' (l1 ++ [c]) → (∀ k, k < wb.heap.size → v1.ownBlock ≠ some k → (bw W0 d).heap[k]? = wb.heap[k]?) → K (a.put o.dst v') (bw W0 d)) :
    if Region.wanted o (yielded ops a.tmps) = true then sOp Tryz.prog o a K wb else E :=
  sop_append hR hgd s x ho W0 wb v1 l1 ⟨xb, 0, none⟩ 1 1 [c] hw hown rfl (fun y hy => by rw [List.mem_singleton.1 hy]; exact hc) (by
    intro j u hu
    have : ([c] : List α).flatMap R.enc = cs.toList := by simp [hcs]
    rw [this] at hu
    exact World.news_of_block hcell j u hu) hs hx (by simp; omega) h
end Go.Proofs.YtejmgdpgngjiiaaGreat
/- The first copy of slices.Repeat. -/
namespace Go.Proofs.YtejmgdpgngjiiaaGreat
open Go.RowKit

theorem size_sg : (Tryz.prog.info? 68).map (·.size) = some 11 := by kernel_rfl
theorem flR_one (s : SgV) : flR s 1 = [s].flatMap sgR.enc := rfl
theorem one_sg (s : SgV) : ∀ v ∈ flR s 1, v.oneCell' = true := fun v hv => sgROk.one s v (by rw [flR_one] at hv; simpa using hv)
theorem rep_first (s : SgV) {w : World} {a : Option Addr} {cap m : Nat} (h1 : 1 ≤ m) (hv : SlG sgR w (.slice a 1 cap) [s]) :
    ∃ d, (Builtin.copy_ #[64, 64] 3 #[.slice (some ⟨w.heap.size, 0, none⟩) m m, .slice a 1 cap]).run Tryz.prog (w.alloc (.cells (flR zsR m).toArray 68)) = .ok (goInt 1) (bw w d) ∧
      (bw w d).heap[w.heap.size]? = some (.cells (rowR s 1 m).toArray 68 (0, 0)) := by
  obtain ⟨b, o, cap', e, -, -, -⟩ := hv.open (by simp)
  obtain rfl : a = some ⟨b, o, none⟩ := (by simpa using e : _ ∧ _).1
  have hbl : Below w.heap.size w (w.alloc (.cells (flR zsR m).toArray 68)) := lay_extends w [.inl (.cells (flR zsR m).toArray 68 (0, 0))]
  have hg : (w.alloc (.cells (flR zsR m).toArray 68)).heap[w.heap.size]? = some (.cells (flR zsR m).toArray 68 (0, 0)) := lay_get w [.inl (.cells (flR zsR m).toArray 68 (0, 0))] 0 _ rfl
  have hr := run_copy_recRow (P := Tryz.prog) _ 64 64 3 68 w.heap.size 0 m m ⟨b, o, none⟩ 1 cap 1 11 (flR zsR m).toArray 68 (flR s 1) sgROk.und size_sg hg (Nat.min_eq_left h1) (flR_len s 1)
    (news_sl sgROk (hv.ext hbl)) (by rw [flR_len]; simp [flR_len]; omega) (one_sg s)
  obtain ⟨d, hd⟩ := bw_of (below_setRow hbl (Nat.le_refl _) ((flR zsR m).toArray.toList.take 0 ++ flR s 1 ++ (flR zsR m).toArray.toList.drop (0 + (flR s 1).length)).toArray)
  refine ⟨d, by rw [← hd]; exact hr, ?_⟩
  rw [← hd, setRow_heap _ _ _ _ _ _ hg]
  have := rowR_splice s (n := 0) (c := 1) (m := m) (by omega)
  unfold splice rowR at this
  unfold rowR
  simpa [flR] using this
theorem one_flR (s : SgV) (c : Nat) : ∀ v ∈ flR s c, v.oneCell' = true := fun v hv => by
  obtain ⟨x, hx, hv2⟩ := List.mem_flatMap.1 hv
  rw [(List.mem_replicate.1 hx).2] at hv2
  exact sgROk.one s v hv2
/-- The copies that follow. -/
theorem rep_next (s : SgV) {w : World} {d : Ext} {g n m c x y : Nat} (hgw : w.heap.size ≤ g) (hg : (bw w d).heap[g]? = some (.cells (rowR s n m).toArray 68 (0, 0))) (hn : n ≤ m) (hc : Nat.min n (m - n) = c) :
    ∃ d', (Builtin.copy_ #[64, 64] 3 #[.slice (some ⟨g, n * 11, none⟩) (m - n) x, .slice (some ⟨g, 0, none⟩) n y]).run Tryz.prog (bw w d) = .ok (goInt c) (bw w d') ∧
      (bw w d').heap[g]? = some (.cells (rowR s (n + c) m).toArray 68 (0, 0)) := by
  have hc2 : c ≤ n ∧ n + c ≤ m := by
    have h1 := Nat.min_le_left n (m - n)
    have h2 := Nat.min_le_right n (m - n)
    change min n (m - n) = c at hc
    omega
  have hr := run_copy_recRow (P := Tryz.prog) (bw w d) 64 64 3 68 g (n * 11) (m - n) x ⟨g, 0, none⟩ n y c 11 (rowR s n m).toArray 68 (flR s c) sgROk.und size_sg hg hc (flR_len s c)
    (fun j v hv => by
      have h3 := rowR_src s (n := n) (m := m) hc2.1 hv
      rw [addr_add]
      simp [World.cell?, hg, h3]) (by rw [flR_len]; simp [rowR_len s hn]; omega) (one_flR s c)
  obtain ⟨d2, hd⟩ := bw_of (below_setRow (bw_below w d) hgw ((rowR s n m).toArray.toList.take (n * 11) ++ flR s c ++ (rowR s n m).toArray.toList.drop (n * 11 + (flR s c).length)).toArray)
  refine ⟨d2, by rw [← hd]; exact hr, ?_⟩
  rw [← hd, setRow_heap _ _ _ _ _ _ hg, ← rowR_splice s hc2.2]
  simp [splice]
end Go.Proofs.YtejmgdpgngjiiaaGreat
/- slices.Repeat of one sight. -/
namespace Go.Proofs.YtejmgdpgngjiiaaGreat
open Go.RowKit

set_option maxHeartbeats 1000000 in
set_option maxRecDepth 100000 in
theorem sg_Repeat (s : SgV) (v : Value) (m : Nat) (h1 : 1 ≤ m) (h2 : m ≤ 10) (w : World) (hv : SlG sgR w v [s]) :
    Calls Tryz.prog 38 #[v, .int .i64 (m : Int)] w fun e w' => ∃ v' d, e = .returned v' ∧ w' = bw w d ∧ SlG sgR (bw w d) v' (List.replicate m s) := by
  have HM := Lib.hid (fun W => Tryz.bits_Mul 1 m (by omega) (by omega) W)
  rw [show 1 * m / 18446744073709551616 = 0 by omega, show 1 * m % 18446744073709551616 = m by omega] at HM
  have HS := Lib.hid hv
  obtain ⟨a, cap, rfl⟩ := hv.form
  have t1 : decide ((m : Int) < 0) = false := decide_eq_false (by omega)
  have k1 : IntKind.u64.wrap (m : Int) = (m : Int) := IntWalk.u64_in _ (by omega)
  have k2 : IntKind.i64.wrap (m : Int) = (m : Int) := IntWalk.i64_in _ (by omega)
  have t2 : decide ((9223372036854775807 : Int) < (m : Int)) = false := decide_eq_false (by omega)
  have hmk := make_sg h2
  obtain ⟨d1, hcp, hrow⟩ := rep_first s h1 hv
  change (Builtin.copy_ #[64, 64] 3 #[.slice (some ⟨posn w [], 0, none⟩) m m, .slice a 1 cap]).run Tryz.prog (lay w [.inl (.cells (flR zsR m).toArray 68 (0, 0))]) = .ok (.int .i64 1) (bw w d1) at hcp
  refine lay_start ?_
  go_enter Tryz.func38, Tryz.ntmps38
  go_wp2_with (go_at_call 84; refine (HM.out _).mono ?_; rintro e w' ⟨rfl, hw⟩; rw [hw])
  go_loopw [8] (fun v8 wr => ∃ (n : Nat) (dd : Ext), 1 ≤ n ∧ n ≤ m ∧ v8 = .int .i64 (n : Int) ∧ wr = lay w [.inr dd] ∧ (bw w dd).heap[w.heap.size]? = some (.cells (rowR s n m).toArray 68 (0, 0))) (fun v8 _ => m - (intOf v8).toNat)
  case atStart => exact ⟨1, d1, Nat.le_refl _, h1, rfl, rfl, hrow⟩
  case round =>
    obtain ⟨n, dd, hn1, hn2, rfl, rfl, hR⟩ := hrel
    by_cases hlt : n < m
    · have x1 : (n : Int) < (m : Int) := by omega
      have x2 : (0 : Int) ≤ (n : Int) := by omega
      have x3 : (n : Int) ≤ (m : Int) := by omega
      have x4 : (n : Int).toNat = n := by omega
      have x5 : ¬ m = n := by omega
      obtain ⟨c, hc⟩ : ∃ c, Nat.min n (m - n) = c := ⟨_, rfl⟩
      have hc1 : 1 ≤ c ∧ n + c ≤ m := by
        change min n (m - n) = c at hc
        omega
      have x6 : IntKind.i64.wrap ((n : Int) + (c : Int)) = ((n + c : Nat) : Int) := (IntWalk.i64_in _ (by omega)).trans (by omega)
      go_wp2_with fail
      refine region_mixS 7 [(0, 2), (1, 2), (2, 2), (3, 2), (4, 2), (5, 2), (6, 2), (7, 3), (8, 2), (9, 2)] (by kernel_rfl) (by kernel_rfl) (by kernel_rfl) rfl ?_
      repeat (first | (refine wpMS_pure rfl (fun K hK => ?_); go_simp; refine hK _ ?_; clear hK K) | (refine wpMS_quiet rfl (fun K hK => ?_); go_simp; first | (refine hK _ ?_; clear hK K) | (apply Exists.intro; refine ⟨fun _ => ?_, hK _ ?_⟩; (first | fail); clear hK K)))
      refine wpMS_store rfl (fun K hK e1 => ?_)
      obtain ⟨E, hE⟩ : ∃ E, bw (lay w [.inr dd]) e1 = bw w E := ⟨_, bw_bw w dd e1⟩
      have hRE : (bw w E).heap[w.heap.size]? = some (.cells (rowR s n m).toArray 68 (0, 0)) := by
        rw [← hE]
        exact (bw_get (bw w dd) e1 _ (Array.getElem?_eq_some_iff.1 hR).1).trans hR
      obtain ⟨d2, hcp2, hrow2⟩ := rep_next s (Nat.le_refl _) hRE hn2 hc (x := m - n) (y := m)
      change (Builtin.copy_ #[64, 64] 3 #[.slice (some ⟨posn w [], n * 11, none⟩) (m - n) (m - n), .slice (some ⟨posn w [], 0, none⟩) n m]).run Tryz.prog (bw w E) = .ok (.int .i64 (c : Int)) (bw w d2) at hcp2
      rw [hE]
      go_simp
      refine hK _ _ ?_
      clear hK K
      repeat (first | (refine wpMS_pure rfl (fun K hK => ?_); go_simp; refine hK _ ?_; clear hK K) | (refine wpMS_quiet rfl (fun K hK => ?_); go_simp; first | (refine hK _ ?_; clear hK K) | (apply Exists.intro; refine ⟨fun _ => ?_, hK _ ?_⟩; (first | fail); clear hK K)))
      refine wpMS_nil (fun e2 => ?_)
      obtain ⟨d3, e3⟩ : ∃ x, bw (bw w d2) e2 = lay w [.inr x] := ⟨_, bw_bw _ _ _⟩
      have HR3 : Hid ((bw w d3).heap[w.heap.size]? = some (.cells (rowR s (n + c) m).toArray 68 (0, 0))) := by
        refine Lib.hid ?_
        rw [show bw w d3 = bw (bw w d2) e2 from e3.symm]
        exact (bw_get (bw w d2) e2 _ (Array.getElem?_eq_some_iff.1 hrow2).1).trans hrow2
      rw [e3]
      clear e3 hcp2 hrow2 hRE hE
      go_wp2_with fail
      go_roundw
      case rel => exact ⟨n + c, d3, by omega, hc1.2, by first | rfl | exact congrArg (Value.int .i64) (by omega), rfl, HR3.out⟩
      case measure => simp [intOf]; omega
    · obtain rfl : n = m := by omega
      have x9 : ¬ (n : Int) < (n : Int) := by omega
      go_wp2_with fail
      refine bodyPost_ret (v := .slice (some ⟨posn w [], 0, none⟩) n n) (by simp [results, Tryz.results38, go_sem]) rfl ⟨_, rfl, dd, rfl, ?_⟩
      have hS := HS.out
      refine ⟨_, n, by rw [List.length_replicate]; rfl, by rw [List.length_replicate]; omega, fun x hx => ?_, fun _ => ⟨w.heap.size, 0, rfl, (Array.getElem?_eq_some_iff.1 hR).1, fun i x hx j u hu => ?_⟩⟩
      · rw [(List.mem_replicate.1 hx).2]
        exact hS.wf s (List.mem_singleton.2 rfl)
      · have hj : j < 11 := by
          have := (List.getElem?_eq_some_iff.1 hu).1
          rw [sgROk.len] at this; exact this
        have h3 := flat_get sgROk hx hj
        rw [hu] at h3
        rw [rowR_done] at hR
        have h4 : (flR s n)[i * 11 + j]? = some u := h3
        show (bw w dd).cell? ⟨w.heap.size, 0 + (i * 11 + j), none⟩ = some u
        simp [World.cell?, hR, h4]
end Go.Proofs.YtejmgdpgngjiiaaGreat

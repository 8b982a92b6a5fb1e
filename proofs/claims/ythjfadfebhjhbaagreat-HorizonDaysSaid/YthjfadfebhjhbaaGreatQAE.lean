/- Contracts and plain laws, several texts in one: Mpb; Angle; Cal; Cal2 -/
import Derived.Test.YthjfadfebhjhbaaGreatProg
import Derived.WalkKit
import Derived.WalkSpells
import Derived.WalkLawsBesides
import Derived.Lib.Hide
import Derived.BigQuiet
import Derived.Maps.Own
import Derived.Maps.OwnOps
import Derived.Maps.Views
import Derived.Test.YthjfadfebhjhbaaGreatQAA
import Derived.Test.YthjfadfebhjhbaaGreatQAB
/- A set of strings kept as a map of bools of the call's own. No function of the program. -/
namespace Go.Proofs.YthjfadfebhjhbaaGreat
open Go.RowKit Go.Maps

theorem atKey_fold {H : Type} (u z : DataW H) (k : Lit) : ∀ (acc : List Lit) (m : DataW H), IsMap m → (∀ x ∈ acc, WideAt.IsKeyLit x) →
    (acc.foldl (fun m x => m.put x u) m).atKey k z = if acc.any (fun x => x.sameKey k) = true then u else m.atKey k z
  | [], m, _, _ => rfl
  | x :: acc, m, hm, hk => by
    rw [List.foldl_cons, atKey_fold u z k acc (m.put x u) (hm.put x u) (fun y hy => hk y (List.mem_cons_of_mem _ hy)), List.any_cons]
    have hx := hk x (List.mem_cons_self ..)
    by_cases h : x = k
    · subst h
      rw [WideAt.sameKey_self hx, Bool.true_or, atKey_put_same hm hx]
      split <;> rfl
    · have h' : k ≠ x := fun e => h e.symm
      rw [sameKey_ne h, Bool.false_or, atKey_put_other h']
theorem atKey_setOf {H : Type} (u z : DataW H) (k : Lit) (acc : List Lit) (hk : ∀ x ∈ acc, WideAt.IsKeyLit x) (hz : (DataW.map [] : DataW H).atKey k z = z) : (setOf u acc).atKey k z = if acc.any (fun x => x.sameKey k) = true then u else z := by
  unfold setOf
  rw [atKey_fold u z k acc _ isMap_empty hk, hz]
def keyS (s : ByteArray) : Lit := .string s.data.toList
def setS (l : List ByteArray) : DataW Unit := setOf (.lit (.bool true)) (l.map keyS)
theorem keyS_lit (l : List ByteArray) : ∀ x ∈ l.map keyS, WideAt.IsKeyLit x := fun x hx => by
  obtain ⟨s, _, rfl⟩ := List.mem_map.1 hx
  trivial
theorem setS_snoc (l : List ByteArray) (s : ByteArray) : setS (l ++ [s]) = (setS l).put (keyS s) (.lit (.bool true)) := by
  unfold setS
  rw [List.map_append]
  exact setOf_snoc _ _ _
theorem key_same (a b : ByteArray) : (keyS a).sameKey (keyS b) = (a.toList == b.toList) := by
  rw [ByteArray.toList_eq, ByteArray.toList_eq]
  by_cases h : a.data.toList = b.data.toList
  · rw [h, beq_self_eq_true]
    unfold keyS
    rw [h]
    exact WideAt.sameKey_self trivial
  · rw [beq_eq_false_iff_ne.2 h]
    exact sameKey_ne (fun e => h (by unfold keyS at e; injection e))
theorem setS_at (l : List ByteArray) (s : ByteArray) : (setS l).atKey (keyS s) (.lit (.bool false)) = .lit (.bool (l.any fun x => x.toList == s.toList)) := by
  unfold setS
  rw [atKey_setOf _ _ _ _ (keyS_lit l) rfl, List.any_map]
  have : ((fun x => Lit.sameKey x (keyS s)) ∘ keyS) = fun x : ByteArray => x.toList == s.toList := funext fun x => key_same x s
  rw [this]
  cases l.any fun x => x.toList == s.toList <;> rfl
set_option maxRecDepth 100000 in
theorem zero_bool (w : World) : (zeroValue 4).run Tryz.prog w = .ok (.bool false) w := by kernel_rfl
theorem plain_bool_inv {v : Value} {x : Bool} {ps : List MemPlace} (h : plainElem (H := Unit) Tryz.prog 4 v = some (.lit (.bool x), ps)) : v = .bool x := by
  unfold plainElem at h
  have hu := Tryz.underlying4
  generalize Tryz.prog.underlying 4 = U at *
  subst hu
  cases v <;> simp_all
def OwnS (w : World) (b : Nat) (l : List ByteArray) : Prop := w.ownsMap Tryz.prog 9 (plainElem (H := Unit) Tryz.prog 4) b l.length (setS l)
theorem ownS_new (w : World) : OwnS (w.alloc (.map #[] 0)) w.heap.size [] := World.ownsMap_made _ _ _ _
theorem ownS_on {w : World} {b : Nat} {l : List ByteArray} {A B : List (Obj ⊕ Ext)} (h : OwnS (lay w B) b l) : OwnS (lay w (A ++ B)) b l := by
  have hb := lay_belowG (w := w) (A := A) (B := B)
  exact World.ownsMap.kept (row := none) h ⟨hb.1, hb.2, hb.3, hb.size, fun k hk _ => hb.block k hk⟩ (by simp)
theorem law_str : Keyed Tryz.prog 9 := string_keyed Tryz.underlying9
theorem ownS_look {w : World} {b : Nat} {l : List ByteArray} (h : OwnS w b l) (s : ByteArray) (hs : s.size ≤ maxLen) : (Instr.lookup 170 (.map (some b)) (.string s) false).run Tryz.prog w = .ok (.bool (l.any fun x => x.toList == s.toList)) w := by
  obtain ⟨v, ps, hr, hv⟩ := World.ownsMap.lookup h law_str Tryz.underlying170 (zero_bool w) (plainElem_bool Tryz.underlying4 false) (WideMaps.keyOf_string_mk Tryz.underlying9 hs)
  rw [show (Lit.string s.data.toList) = keyS s from rfl, setS_at] at hv
  rw [hr, plain_bool_inv hv]
theorem put_name {ops : Array Oper} {rest : List Oper} {o : Oper} {a : Act} {Q : Exit → Act → World → Prop} (hg : o.guard = none) (m x v : Operand) (hop : o.op = Op.mapUpdate 170 m x v)
    (W0 w : World) (b : Nat) (l : List ByteArray) (s : ByteArray) (hw : Below W0.heap.size W0 w) (hb : W0.heap.size ≤ b) (hm : a.eval m = .map (some b)) (hx : a.eval x = .string s) (hv : a.eval v = .bool true)
    (hown : OwnS w b l) (hs : s.size ≤ maxLen) (hl : l.length ≤ 1000)
    (h : ∀ d, OwnS (Go.Proofs.YthjfadfebhjhbaaGreat.bw W0 d) b (l ++ [s]) → wpList Tryz.prog ops Q rest (a.put o.dst undef) (Go.Proofs.YthjfadfebhjhbaaGreat.bw W0 d)) :
    wpList Tryz.prog ops Q (o :: rest) a w := by
  refine wpList_mapUpdate_own w hg m x v 170 hop 9 4 law_str Tryz.underlying170 _ b l.length (setS l) hm hown (by unfold maxLen; omega) (.string s) (.bool true) (keyS s) hx hv (WideMaps.keyOf_string_mk Tryz.underlying9 hs) _ [] (plainElem_bool Tryz.underlying4 true) ?_
  intro w' h1 h2
  obtain ⟨d, rfl⟩ := bw_of (w := W0) (w' := w') (hw.grown h2 hw.size (fun k hk => by cases hk; exact hb))
  refine h d ?_
  unfold OwnS
  rw [setS_snoc, List.length_append]
  exact h1
end Go.Proofs.YthjfadfebhjhbaaGreat
/- Contracts of package angle and of its reference, as far as the translation has them. -/
namespace Go.Proofs.YthjfadfebhjhbaaGreat
open Go.RowKit

def fitsB (n : Int) : Bool := decide (-1099511627776 ≤ n ∧ n ≤ 1099511627776)
theorem fits_yes {n : Int} (h1 : -1099511627776 ≤ n) : decide (n ≤ 1099511627776) = fitsB n := by
  unfold fitsB; simp [h1]
theorem fits_no {n : Int} (h1 : n < -1099511627776) : false = fitsB n := by
  unfold fitsB; simp; omega
def validB (lo hi : Int) : Bool := decide (lo ≤ hi ∧ -1099511627776 ≤ lo ∧ hi ≤ 1099511627776)
theorem validB_iff {lo hi : Int} : validB lo hi = true ↔ lo ≤ hi ∧ -1099511627776 ≤ lo ∧ hi ≤ 1099511627776 := by simp [validB]
theorem validB_eq {lo hi : Int} : validB lo hi = (decide (lo ≤ hi) && fitsB lo && fitsB hi) := by
  rw [Bool.eq_iff_iff]; simp [validB, fitsB]; omega
set_option maxHeartbeats 400000 in
theorem angle_fits (n : Int) (w : World) :
    Calls Tryz.prog 120 #[.int .i64 n] w fun e w' => e = .returned (.bool (fitsB n)) ∧ w' = w := by
  go_enter Tryz.func120, Tryz.ntmps120
  go_wp2
  · go_ret
    exact ⟨ret_bool (fits_yes ‹_›), rfl⟩
  · go_ret
    exact ⟨ret_bool (fits_no ‹_›), rfl⟩
theorem valid_ways1 {lo hi : Int} (h : lo ≤ hi) (h2 : fitsB lo = true) : fitsB hi = validB lo hi := by simp [validB_eq, *]
theorem valid_ways2 {lo hi : Int} (h2 : ¬ fitsB lo = true) : false = validB lo hi := by simp [validB_eq, *]
theorem valid_ways3 {lo hi : Int} (h2 : hi < lo) : false = validB lo hi := by
  have : ¬ lo ≤ hi := by omega
  simp [validB_eq, *]
set_option maxHeartbeats 400000 in
theorem angle_Valid (lo hi : Int) (w : World) :
    Calls Tryz.prog 78 #[(.agg #[.int .i64 (lo), .int .i64 (hi)])] w fun e w' => e = .returned (.bool (validB lo hi)) ∧ ∃ d, w' = bw w d := by
  refine lay_start ?_
  go_enter Tryz.func78, Tryz.ntmps78
  go_wp2_with (go_at_call 120; refine (angle_fits _ _).mono ?_; rintro e w' ⟨rfl, rfl⟩)
  all_goals go_ret
  all_goals exact ⟨ret_bool (by first | exact valid_ways1 ‹_› ‹_› | exact valid_ways2 ‹_› | exact valid_ways3 ‹_›), lay_ex _ _⟩
set_option maxHeartbeats 400000 in
theorem ref05_Valid (lo hi : Int) (w : World) :
    Calls Tryz.prog 95 #[(.agg #[.int .i64 (lo), .int .i64 (hi)])] w fun e w' => e = .returned (.bool (validB lo hi)) ∧ ∃ d, w' = bw w d := by
  refine lay_start ?_
  go_enter Tryz.func95, Tryz.ntmps95
  go_wp2
  all_goals go_ret
  all_goals exact ⟨ret_bool (by rw [Bool.eq_iff_iff]; simp [validB]; omega), lay_ex _ _⟩
set_option maxHeartbeats 400000 in
theorem ref05_Floor (a b : Int) (w : World) (hb : 1 ≤ b) (h1 : -9223372036854775807 ≤ a) (h2 : a ≤ 9223372036854775807) :
    Calls Tryz.prog 58 #[.int .i64 a, .int .i64 b] w fun e w' => e = .returned (.int .i64 (a / b)) ∧ w' = w := by
  go_enter Tryz.func58, Tryz.ntmps58
  go_wp2
  · go_ret
    refine ⟨ret_int ?_, rfl⟩
    rw [IntWalk.wrap64_in]
    · exact floor_neg hb ‹_›
    · rw [floor_neg hb ‹_›]; have := ediv_bd hb 9223372036854775807 (by decide) h1 h2; omega
  · go_ret
    exact ⟨ret_int (floor_pos hb ‹_›), rfl⟩
set_option maxHeartbeats 400000 in
theorem ref05_Ceil (a b : Int) (w : World) (hb : 1 ≤ b) (h1 : -9223372036854775807 ≤ a) (h2 : a ≤ 9223372036854775807) :
    Calls Tryz.prog 190 #[.int .i64 a, .int .i64 b] w fun e w' => e = .returned (.int .i64 (cdiv a b)) ∧ w' = w := by
  go_enter Tryz.func190, Tryz.ntmps190
  go_wp2
  · go_ret
    refine ⟨ret_int ?_, rfl⟩
    rw [IntWalk.wrap64_in]
    · exact cdiv_pos hb ‹_›
    · rw [cdiv_pos hb ‹_›]; have := cdiv_bd hb 9223372036854775807 (by decide) h1 h2; omega
  · go_ret
    exact ⟨ret_int (cdiv_neg hb ‹_›), rfl⟩
set_option maxHeartbeats 400000 in
theorem angle_Wrap (n : Int) (w : World) :
    Calls Tryz.prog 155 #[.int .i64 n] w fun e w' => e = .returned (.int .i64 (n % 21600000)) ∧ w' = w := by
  have hb := tmod_bd n 21600000 (by decide)
  go_enter Tryz.func155, Tryz.ntmps155
  go_wp2
  · go_ret
    exact ⟨ret_int ((tmod_wrap n 21600000 (by decide)).1 ‹_›), rfl⟩
  · go_ret
    exact ⟨ret_int ((tmod_wrap n 21600000 (by decide)).2 ‹_›), rfl⟩
set_option maxHeartbeats 400000 in
theorem ref05_Wrap (n : Int) (w : World) :
    Calls Tryz.prog 107 #[.int .i64 n] w fun e w' => e = .returned (.int .i64 (n % 21600000)) ∧ w' = w := by
  have hb := tmod_bd n 21600000 (by decide)
  go_enter Tryz.func107, Tryz.ntmps107
  go_wp2
  · go_ret
    exact ⟨ret_int ((tmod_wrap n 21600000 (by decide)).1 ‹_›), rfl⟩
  · go_ret
    exact ⟨ret_int ((tmod_wrap n 21600000 (by decide)).2 ‹_›), rfl⟩

def mn (x y : Int) : Int := if y < x then y else x
def mx (x y : Int) : Int := if x < y then y else x
theorem mn_eq (x y : Int) : mn x y = min x y := by unfold mn; split <;> omega
theorem mx_eq (x y : Int) : mx x y = max x y := by unfold mx; split <;> omega
section
variable {P : Program} {w : World}
theorem run_mn (ts : Array TypeId) (t : TypeId) (k k' : IntKind) (x y : Int) : (Builtin.min_ ts t #[.int k x, .int k' y]).run P w = .ok (.int k (mn x y)) w := run_min_int2 w ts t k k' x y
theorem run_mx (ts : Array TypeId) (t : TypeId) (k k' : IntKind) (x y : Int) : (Builtin.max_ ts t #[.int k x, .int k' y]).run P w = .ok (.int k (mx x y)) w := run_max_int2 w ts t k k' x y
end
attribute [go_sem ↓] run_mn run_mx

set_option maxHeartbeats 400000 in
theorem ref05_Hull (x0 y0 x1 y1 : Int) (w : World) :
    Calls Tryz.prog 71 #[(.agg #[.int .i64 (x0), .int .i64 (y0)]), (.agg #[.int .i64 (x1), .int .i64 (y1)])] w fun e w' => e = .returned (.agg #[.int .i64 (mn x0 x1), .int .i64 (mx y0 y1)]) ∧ ∃ d, w' = bw w d := by
  refine lay_start ?_
  go_enter Tryz.func71, Tryz.ntmps71
  go_wp2
  all_goals exact bodyPost_ret (v := (.agg #[.int .i64 (mn x0 x1), .int .i64 (mx y0 y1)])) (by simp [results, Tryz.results71, go_sem, mn, mx]; omega) rfl ⟨rfl, lay_ex _ _⟩
def meetLo (x0 y0 x1 y1 : Int) : Int := if max x0 x1 ≤ min y0 y1 then max x0 x1 else 0
def meetHi (x0 y0 x1 y1 : Int) : Int := if max x0 x1 ≤ min y0 y1 then min y0 y1 else 0
def meetE (x0 y0 x1 y1 : Int) : Int := if max x0 x1 ≤ min y0 y1 then 0 else 23
theorem meet_bad {x0 y0 x1 y1 : Int} (h : mn y0 y1 < mx x0 x1) : meetLo x0 y0 x1 y1 = 0 ∧ meetHi x0 y0 x1 y1 = 0 ∧ meetE x0 y0 x1 y1 = 23 := by
  rw [mn_eq, mx_eq] at h
  unfold meetLo meetHi meetE; omega
theorem meet_good {x0 y0 x1 y1 : Int} (h : mx x0 x1 ≤ mn y0 y1) : meetLo x0 y0 x1 y1 = mx x0 x1 ∧ meetHi x0 y0 x1 y1 = mn y0 y1 ∧ meetE x0 y0 x1 y1 = 0 := by
  rw [mn_eq, mx_eq] at *
  unfold meetLo meetHi meetE; omega
set_option maxHeartbeats 400000 in
theorem angle_Meet (x0 y0 x1 y1 : Int) (w : World) (h1 : validB x0 y0 = true) (h2 : validB x1 y1 = true) :
    Calls Tryz.prog 266 #[(.agg #[.int .i64 (x0), .int .i64 (y0)]), (.agg #[.int .i64 (x1), .int .i64 (y1)])] w fun e w' => e = .returned (.tuple #[(.agg #[.int .i64 (meetLo x0 y0 x1 y1), .int .i64 (meetHi x0 y0 x1 y1)]), .int .i64 (meetE x0 y0 x1 y1)]) ∧ ∃ d, w' = bw w d := by
  by_cases h3 : mn y0 y1 < mx x0 x1
  · have HG := Lib.hid (meet_bad h3)
    refine lay_start ?_
    go_enter Tryz.func266, Tryz.ntmps266
    go_wp2_with (go_at_call 78; refine (angle_Valid _ _ _).mono ?_; rintro e w' ⟨rfl, d, rfl⟩)
    obtain ⟨g1, g2, g3⟩ := HG.out
    exact bodyPost_ret (v := .tuple #[(.agg #[.int .i64 (meetLo x0 y0 x1 y1), .int .i64 (meetHi x0 y0 x1 y1)]), .int .i64 (meetE x0 y0 x1 y1)]) (by simp [results, Tryz.results266, go_sem, g1, g2, g3]) rfl ⟨rfl, lay_ex _ _⟩
  · have HG := Lib.hid (meet_good (x0 := x0) (y0 := y0) (x1 := x1) (y1 := y1) (by omega))
    refine lay_start ?_
    go_enter Tryz.func266, Tryz.ntmps266
    go_wp2_with (go_at_call 78; refine (angle_Valid _ _ _).mono ?_; rintro e w' ⟨rfl, d, rfl⟩)
    obtain ⟨g1, g2, g3⟩ := HG.out
    exact bodyPost_ret (v := .tuple #[(.agg #[.int .i64 (meetLo x0 y0 x1 y1), .int .i64 (meetHi x0 y0 x1 y1)]), .int .i64 (meetE x0 y0 x1 y1)]) (by simp [results, Tryz.results266, go_sem, g1, g2, g3]) rfl ⟨rfl, lay_ex _ _⟩
set_option maxHeartbeats 400000 in
theorem ref05_Meet (x0 y0 x1 y1 : Int) (w : World) :
    Calls Tryz.prog 148 #[(.agg #[.int .i64 (x0), .int .i64 (y0)]), (.agg #[.int .i64 (x1), .int .i64 (y1)])] w fun e w' => e = .returned (.agg #[.int .i64 (mx x0 x1), .int .i64 (mn y0 y1)]) ∧ ∃ d, w' = bw w d := by
  refine lay_start ?_
  go_enter Tryz.func148, Tryz.ntmps148
  go_wp2
  all_goals exact bodyPost_ret (v := (.agg #[.int .i64 (mx x0 x1), .int .i64 (mn y0 y1)])) (by simp [results, Tryz.results148, go_sem, mn, mx]; omega) rfl ⟨rfl, lay_ex _ _⟩
def turnLo (x0 y0 : Int) : Int := if 21600000 ≤ y0 - x0 then 0 else x0 % 21600000
def turnHi (x0 y0 : Int) : Int := if 21600000 ≤ y0 - x0 then 21600000 else x0 % 21600000 + (y0 - x0)
set_option maxHeartbeats 400000 in
theorem angle_Turn (x0 y0 : Int) (w : World) (h1 : validB x0 y0 = true) :
    Calls Tryz.prog 115 #[(.agg #[.int .i64 (x0), .int .i64 (y0)])] w fun e w' => e = .returned (.tuple #[(.agg #[.int .i64 (turnLo x0 y0), .int .i64 (turnHi x0 y0)]), .int .i64 0]) ∧ ∃ d, w' = bw w d := by
  obtain ⟨g1, g2, g3⟩ := validB_iff.1 h1
  refine lay_start ?_
  go_enter Tryz.func115, Tryz.ntmps115
  go_wp2_with (first | (go_at_call 78; refine (angle_Valid _ _ _).mono ?_; rintro e w' ⟨rfl, d, rfl⟩) | (go_at_call 155; refine (angle_Wrap _ _).mono ?_; rintro e w' ⟨rfl, rfl⟩))
  all_goals exact bodyPost_ret (v := .tuple #[(.agg #[.int .i64 (turnLo x0 y0), .int .i64 (turnHi x0 y0)]), .int .i64 0]) (by simp [results, Tryz.results115, go_sem, turnLo, turnHi]; omega) rfl ⟨rfl, lay_ex _ _⟩
set_option maxHeartbeats 400000 in
theorem ref05_Turn (x0 y0 : Int) (w : World) (h1 : -4611686018427387904 ≤ x0) (h2 : x0 ≤ y0) (h3 : y0 ≤ 4611686018427387903) :
    Calls Tryz.prog 63 #[(.agg #[.int .i64 (x0), .int .i64 (y0)])] w fun e w' => e = .returned (.agg #[.int .i64 (turnLo x0 y0), .int .i64 (turnHi x0 y0)]) ∧ ∃ d, w' = bw w d := by
  refine lay_start ?_
  go_enter Tryz.func63, Tryz.ntmps63
  go_wp2_with (go_at_call 107; refine (ref05_Wrap _ _).mono ?_; rintro e w' ⟨rfl, rfl⟩)
  all_goals exact bodyPost_ret (v := (.agg #[.int .i64 (turnLo x0 y0), .int .i64 (turnHi x0 y0)])) (by simp [results, Tryz.results63, go_sem, turnLo, turnHi]; omega) rfl ⟨rfl, lay_ex _ _⟩

set_option maxHeartbeats 400000 in
theorem ref05_Add (x0 y0 x1 y1 : Int) (w : World) (h1 : -9223372036854775807 ≤ x0 + x1) (h2 : x0 + x1 ≤ 9223372036854775807) (h3 : -9223372036854775807 ≤ y0 + y1) (h4 : y0 + y1 ≤ 9223372036854775807) :
    Calls Tryz.prog 64 #[(.agg #[.int .i64 (x0), .int .i64 (y0)]), (.agg #[.int .i64 (x1), .int .i64 (y1)])] w fun e w' => e = .returned (.agg #[.int .i64 (x0 + x1), .int .i64 (y0 + y1)]) ∧ ∃ d, w' = bw w d := by
  refine lay_start ?_
  go_enter Tryz.func64, Tryz.ntmps64
  go_wp2
  exact bodyPost_ret (v := (.agg #[.int .i64 (x0 + x1), .int .i64 (y0 + y1)])) (by simp [results, Tryz.results64, go_sem]) rfl ⟨rfl, lay_ex _ _⟩
end Go.Proofs.YthjfadfebhjhbaaGreat
/- Dates: package calendar's numbers and the reference's. -/
namespace Go.Proofs.YthjfadfebhjhbaaGreat
open Go.RowKit

def leapB (y : Int) : Bool := decide (y % 4 = 0 ∧ (y % 100 ≠ 0 ∨ y % 400 = 0))
def dysI (y m : Int) : Int := if m = 2 then (if leapB y = true then 29 else 28) else if m = 4 ∨ m = 6 ∨ m = 9 ∨ m = 11 then 30 else 31
theorem dysI_bd (y m : Int) : 28 ≤ dysI y m ∧ dysI y m ≤ 31 := by unfold dysI; split <;> (try split) <;> omega
def befI (y : Int) : Int := 365 * (y - 1) + (y - 1) / 4 - (y - 1) / 100 + (y - 1) / 400
theorem befI_bd {y : Int} (h0 : 1 ≤ y) (h1 : y ≤ 9999) : 0 ≤ befI y ∧ befI y ≤ 4000000 := by unfold befI; omega
def monI (y : Int) : Nat → Int
  | 0 => 0
  | k + 1 => monI y k + dysI y ((k : Int) + 1)
theorem monI_bd (y : Int) : ∀ k : Nat, 0 ≤ monI y k ∧ monI y k ≤ 31 * (k : Int)
  | 0 => by simp [monI]
  | k + 1 => by
    have := monI_bd y k
    have := dysI_bd y ((k : Int) + 1)
    simp only [monI]; omega
def numI (y m d : Int) : Int := befI y + (d + monI y (m - 1).toNat) - 730119 - 1
def dateB (y m d : Int) : Bool := decide ((1 ≤ y ∧ y ≤ 9999) ∧ (1 ≤ m ∧ m ≤ 12) ∧ 1 ≤ d ∧ d ≤ dysI y m)
theorem dateB_iff {y m d : Int} : dateB y m d = true ↔ (1 ≤ y ∧ y ≤ 9999) ∧ (1 ≤ m ∧ m ≤ 12) ∧ 1 ≤ d ∧ d ≤ dysI y m := by simp [dateB]
theorem bef2000 : befI 2000 = 730119 := by decide
theorem tm_eq {y c : Int} (h : 0 ≤ y) : y.tmod c = y % c := Int.tmod_eq_emod_of_nonneg h
theorem td_eq {y c : Int} (h : 0 ≤ y) : y.tdiv c = y / c := Int.tdiv_eq_ediv_of_nonneg h
theorem leap_ways {y : Int} : (leapB y = true ∧ y % 4 = 0 ∧ (y % 100 != 0) = true ∧ (y % 100 == 0) = false) ∨ (leapB y = true ∧ y % 4 = 0 ∧ y % 100 = 0 ∧ y % 400 = 0) ∨
    (leapB y = false ∧ y % 4 = 0 ∧ y % 100 = 0 ∧ (y % 400 == 0) = false) ∨ (leapB y = false ∧ (y % 4 == 0) = false ∧ (y % 400 == 0) = false) := by
  unfold leapB
  simp only [decide_eq_true_eq, decide_eq_false_iff_not, beq_eq_false_iff_ne, bne_iff_ne, ne_eq]
  omega
set_option maxHeartbeats 400000 in
theorem cal_Leap (y : Int) (w : World) (h0 : 0 ≤ y) :
    Calls Tryz.prog 202 #[.int .i64 y] w fun e w' => e = .returned (.bool (leapB y)) ∧ w' = w := by
  obtain ⟨A, eA⟩ : ∃ A, y % 4 = A := ⟨_, rfl⟩
  obtain ⟨B, eB⟩ : ∃ B, y % 100 = B := ⟨_, rfl⟩
  obtain ⟨C, eC⟩ : ∃ C, y % 400 = C := ⟨_, rfl⟩
  have e1 : y.tmod 4 = A := (tm_eq h0).trans eA
  have e2 : y.tmod 100 = B := (tm_eq h0).trans eB
  have e3 : y.tmod 400 = C := (tm_eq h0).trans eC
  have hw := leap_ways (y := y)
  rw [eA, eB, eC] at hw
  clear eA eB eC h0
  rcases hw with ⟨h, rfl, b2, b⟩ | ⟨h, rfl, rfl, rfl⟩ | ⟨h, rfl, rfl, c⟩ | ⟨h, a, c⟩
  all_goals
    rw [h]
    clear h
    go_enter Tryz.func202, Tryz.ntmps202
    go_wp2_with fail
    go_ret
    exact ⟨rfl, rfl⟩
set_option maxHeartbeats 400000 in
theorem ref09_Leap (y : Int) (w : World) (h0 : 0 ≤ y) :
    Calls Tryz.prog 267 #[.int .i64 y] w fun e w' => e = .returned (.bool (leapB y)) ∧ w' = w := by
  obtain ⟨A, eA⟩ : ∃ A, y % 4 = A := ⟨_, rfl⟩
  obtain ⟨B, eB⟩ : ∃ B, y % 100 = B := ⟨_, rfl⟩
  obtain ⟨C, eC⟩ : ∃ C, y % 400 = C := ⟨_, rfl⟩
  have e1 : y.tmod 4 = A := (tm_eq h0).trans eA
  have e2 : y.tmod 100 = B := (tm_eq h0).trans eB
  have e3 : y.tmod 400 = C := (tm_eq h0).trans eC
  have hw := leap_ways (y := y)
  rw [eA, eB, eC] at hw
  clear eA eB eC h0
  rcases hw with ⟨h, rfl, b2, b⟩ | ⟨h, rfl, rfl, rfl⟩ | ⟨h, rfl, rfl, c⟩ | ⟨h, a, c⟩
  all_goals
    rw [h]
    clear h
    go_enter Tryz.func267, Tryz.ntmps267
    go_wp2_with fail
    go_ret
    exact ⟨rfl, rfl⟩
def lenA : Array Value := #[.int .i64 31, .int .i64 28, .int .i64 31, .int .i64 30, .int .i64 31, .int .i64 30, .int .i64 31, .int .i64 31, .int .i64 30, .int .i64 31, .int .i64 30, .int .i64 31]
set_option maxRecDepth 100000
theorem ix_0 (w : World) : (Instr.index 216 (.agg lenA) (.int .i64 0)).run Tryz.prog w = .ok (.int .i64 31) w := by kernel_rfl
theorem ix_1 (w : World) : (Instr.index 216 (.agg lenA) (.int .i64 1)).run Tryz.prog w = .ok (.int .i64 28) w := by kernel_rfl
theorem ix_2 (w : World) : (Instr.index 216 (.agg lenA) (.int .i64 2)).run Tryz.prog w = .ok (.int .i64 31) w := by kernel_rfl
theorem ix_3 (w : World) : (Instr.index 216 (.agg lenA) (.int .i64 3)).run Tryz.prog w = .ok (.int .i64 30) w := by kernel_rfl
theorem ix_4 (w : World) : (Instr.index 216 (.agg lenA) (.int .i64 4)).run Tryz.prog w = .ok (.int .i64 31) w := by kernel_rfl
theorem ix_5 (w : World) : (Instr.index 216 (.agg lenA) (.int .i64 5)).run Tryz.prog w = .ok (.int .i64 30) w := by kernel_rfl
theorem ix_6 (w : World) : (Instr.index 216 (.agg lenA) (.int .i64 6)).run Tryz.prog w = .ok (.int .i64 31) w := by kernel_rfl
theorem ix_7 (w : World) : (Instr.index 216 (.agg lenA) (.int .i64 7)).run Tryz.prog w = .ok (.int .i64 31) w := by kernel_rfl
theorem ix_8 (w : World) : (Instr.index 216 (.agg lenA) (.int .i64 8)).run Tryz.prog w = .ok (.int .i64 30) w := by kernel_rfl
theorem ix_9 (w : World) : (Instr.index 216 (.agg lenA) (.int .i64 9)).run Tryz.prog w = .ok (.int .i64 31) w := by kernel_rfl
theorem ix_10 (w : World) : (Instr.index 216 (.agg lenA) (.int .i64 10)).run Tryz.prog w = .ok (.int .i64 30) w := by kernel_rfl
theorem ix_11 (w : World) : (Instr.index 216 (.agg lenA) (.int .i64 11)).run Tryz.prog w = .ok (.int .i64 31) w := by kernel_rfl
set_option maxRecDepth 512
set_option maxHeartbeats 400000 in
theorem cal_lengths (w : World) :
    Calls Tryz.prog 203 #[] w fun e w' => e = .returned (.agg lenA) ∧ ∃ d, w' = bw w d := by
  refine lay_start ?_
  unfold lenA
  go_enter Tryz.func203, Tryz.ntmps203
  go_wp2
  exact bodyPost_ret (v := .agg #[.int .i64 31, .int .i64 28, .int .i64 31, .int .i64 30, .int .i64 31, .int .i64 30, .int .i64 31, .int .i64 31, .int .i64 30, .int .i64 31, .int .i64 30, .int .i64 31]) (by simp [results, Tryz.results203, go_sem]) rfl ⟨rfl, lay_ex _ _⟩
theorem mon12 {m : Int} (h0 : 1 ≤ m) (h1 : m ≤ 12) : m = 1 ∨ m = 2 ∨ m = 3 ∨ m = 4 ∨ m = 5 ∨ m = 6 ∨ m = 7 ∨ m = 8 ∨ m = 9 ∨ m = 10 ∨ m = 11 ∨ m = 12 := by omega
set_option maxHeartbeats 1000000 in
set_option maxRecDepth 100000 in
theorem cal_days (y m : Int) (w : World) (hy : 0 ≤ y) (h0 : 1 ≤ m) (h1 : m ≤ 12) :
    Calls Tryz.prog 168 #[.int .i64 y, .int .i64 m] w fun e w' => e = .returned (.int .i64 (dysI y m)) ∧ ∃ d, w' = bw w d := by
  have HL := Lib.hid (fun W => cal_Leap y W hy)
  unfold dysI
  generalize leapB y = b at *
  clear hy
  rcases mon12 h0 h1 with rfl | rfl | rfl | rfl | rfl | rfl | rfl | rfl | rfl | rfl | rfl | rfl
  all_goals cases b
  all_goals
    clear h0 h1
    have ix0 := ix_0
    have ix1 := ix_1
    have ix2 := ix_2
    have ix3 := ix_3
    have ix4 := ix_4
    have ix5 := ix_5
    have ix6 := ix_6
    have ix7 := ix_7
    have ix8 := ix_8
    have ix9 := ix_9
    have ixA := ix_10
    have ixB := ix_11
    refine lay_start ?_
    go_enter Tryz.func168, Tryz.ntmps168
    go_wp2_with (first | (go_at_call 202; refine (HL.out _).mono ?_; rintro e w' ⟨rfl, rfl⟩) | (go_at_call 203; refine (cal_lengths _).mono ?_; rintro e w' ⟨rfl, d, rfl⟩))
    go_ret
    first | exact ⟨rfl, lay_ex _ _⟩ | exact ⟨rfl, noExt _, (bw_noExt _).symm⟩ | exact ⟨rfl, _, rfl⟩
set_option maxHeartbeats 1000000 in
set_option maxRecDepth 100000 in
theorem ref09_Days (y m : Int) (w : World) (hy : 0 ≤ y) (h0 : 1 ≤ m) (h1 : m ≤ 12) :
    Calls Tryz.prog 230 #[.int .i64 y, .int .i64 m] w fun e w' => e = .returned (.int .i64 (dysI y m)) ∧ ∃ d, w' = bw w d := by
  have HL := Lib.hid (fun W => ref09_Leap y W hy)
  unfold dysI
  generalize leapB y = b at *
  clear hy
  rcases mon12 h0 h1 with rfl | rfl | rfl | rfl | rfl | rfl | rfl | rfl | rfl | rfl | rfl | rfl
  all_goals cases b
  all_goals
    clear h0 h1
    refine lay_start ?_
    go_enter Tryz.func230, Tryz.ntmps230
    go_wp2_with (first | (go_at_call 267; refine (HL.out _).mono ?_; rintro e w' ⟨rfl, rfl⟩))
    go_ret
    first | exact ⟨rfl, lay_ex _ _⟩ | exact ⟨rfl, noExt _, (bw_noExt _).symm⟩ | exact ⟨rfl, _, rfl⟩
set_option maxHeartbeats 1000000 in
theorem cal_before (y : Int) (w : World) (h0 : 1 ≤ y) (h1 : y ≤ 9999) :
    Calls Tryz.prog 169 #[.int .i64 y] w fun e w' => e = .returned (.int .i64 (befI y)) ∧ w' = w := by
  have e1 := td_eq (y := y - 1) (c := 4) (by omega)
  have e2 := td_eq (y := y - 1) (c := 100) (by omega)
  have e3 := td_eq (y := y - 1) (c := 400) (by omega)
  unfold befI
  rw [← e1, ← e2, ← e3]
  have b1 : 0 ≤ (y - 1).tdiv 4 ∧ (y - 1).tdiv 4 ≤ 10000 := by omega
  have b2 : 0 ≤ (y - 1).tdiv 100 ∧ (y - 1).tdiv 100 ≤ 10000 := by omega
  have b3 : 0 ≤ (y - 1).tdiv 400 ∧ (y - 1).tdiv 400 ≤ 10000 := by omega
  clear e1 e2 e3
  go_enter Tryz.func169, Tryz.ntmps169
  go_wp2_with fail
  go_ret
  exact ⟨ret_int (by omega), rfl⟩
set_option maxHeartbeats 1000000 in
theorem ref09_before (y : Int) (w : World) (h0 : 1 ≤ y) (h1 : y ≤ 9999) :
    Calls Tryz.prog 185 #[.int .i64 y] w fun e w' => e = .returned (.int .i64 (befI y)) ∧ w' = w := by
  have e1 := td_eq (y := y - 1) (c := 4) (by omega)
  have e2 := td_eq (y := y - 1) (c := 100) (by omega)
  have e3 := td_eq (y := y - 1) (c := 400) (by omega)
  unfold befI
  rw [← e1, ← e2, ← e3]
  have b1 : 0 ≤ (y - 1).tdiv 4 ∧ (y - 1).tdiv 4 ≤ 10000 := by omega
  have b2 : 0 ≤ (y - 1).tdiv 100 ∧ (y - 1).tdiv 100 ≤ 10000 := by omega
  have b3 : 0 ≤ (y - 1).tdiv 400 ∧ (y - 1).tdiv 400 ≤ 10000 := by omega
  clear e1 e2 e3
  go_enter Tryz.func185, Tryz.ntmps185
  go_wp2_with fail
  go_ret
  exact ⟨ret_int (by omega), rfl⟩
end Go.Proofs.YthjfadfebhjhbaaGreat
/- Dates: valid ones, their numbers. -/
namespace Go.Proofs.YthjfadfebhjhbaaGreat
open Go.RowKit

set_option maxHeartbeats 1000000 in
theorem cal_dayOfYear (y m d : Int) (w : World) (hy : 0 ≤ y) (h0 : 1 ≤ m) (h1 : m ≤ 12) (d0 : 1 ≤ d) (d1 : d ≤ 31) :
    Calls Tryz.prog 170 #[.agg #[.int .i64 y, .int .i64 m, .int .i64 d]] w fun e w' => e = .returned (.int .i64 (d + monI y (m - 1).toNat)) ∧ ∃ d, w' = bw w d := by
  have HD := Lib.hid (fun j W (a : 1 ≤ j) (b : j ≤ 12) => cal_days y j W hy a b)
  have HB := Lib.hid (fun k => monI_bd y k)
  have HS : Hid (∀ k : Nat, d + monI y k + dysI y ((k : Int) + 1) = d + monI y (k + 1)) := Lib.hid (fun k => by simp only [monI]; omega)
  have HY := Lib.hid (fun j => dysI_bd y j)
  refine lay_start ?_
  go_enter Tryz.func170, Tryz.ntmps170
  go_wp2_with fail
  go_loopw [3, 4] (fun v3 v4 wr => ∃ (k : Nat) (e : Ext), (k : Int) + 1 ≤ m ∧ v3 = .int .i64 (d + monI y k) ∧ v4 = .int .i64 ((k : Int) + 1) ∧ wr = lay w [.inr e, .inl (.cells #[.int .i64 y, .int .i64 m, .int .i64 d] 135 (0, 0))]) (fun _ v4 _ => m.toNat - (intOf v4).toNat)
  case atStart => exact ⟨0, noExt _, by omega, by simp [monI], rfl, (bw_noExt _).symm⟩
  case round =>
    obtain ⟨k, e, hk, rfl, rfl, rfl⟩ := hrel
    by_cases hlt : (k : Int) + 1 < m
    · have b1 := HB.out k
      have b2 := HY.out ((k : Int) + 1)
      have b3 := HS.out k
      have HDk := Lib.hid (fun W => HD.out ((k : Int) + 1) W (by omega) (by omega))
      clear HD HB HS HY
      generalize monI y k = M at *
      generalize dysI y ((k : Int) + 1) = D at *
      obtain ⟨b11, b12⟩ := b1
      obtain ⟨b21, b22⟩ := b2
      go_wp2_with (go_at_call 168; refine (HDk.out _).mono ?_; rintro e w' ⟨rfl, e2, rfl⟩)
      go_roundw
      case rel => exact ⟨k + 1, _, by omega, by rw [← b3], by go_num, Classical.choose_spec (lay_fold w [_, _] _)⟩
      case measure => simp [intOf]; omega
    · have HM : Hid ((m - 1).toNat = k) := Lib.hid (by omega)
      go_wp2_with fail
      go_ret
      exact ⟨ret_int (by have := HM.out; rw [show m.toNat - 1 = k by omega]), lay_ex _ _⟩
set_option maxHeartbeats 1000000 in
theorem ref09_DayOfYear (y m d : Int) (w : World) (hy : 0 ≤ y) (h0 : 1 ≤ m) (h1 : m ≤ 12) (d0 : 1 ≤ d) (d1 : d ≤ 31) :
    Calls Tryz.prog 186 #[.agg #[.int .i64 y, .int .i64 m, .int .i64 d]] w fun e w' => e = .returned (.int .i64 (d + monI y (m - 1).toNat)) ∧ ∃ d, w' = bw w d := by
  have HD := Lib.hid (fun j W (a : 1 ≤ j) (b : j ≤ 12) => ref09_Days y j W hy a b)
  have HB := Lib.hid (fun k => monI_bd y k)
  have HS : Hid (∀ k : Nat, d + monI y k + dysI y ((k : Int) + 1) = d + monI y (k + 1)) := Lib.hid (fun k => by simp only [monI]; omega)
  have HY := Lib.hid (fun j => dysI_bd y j)
  refine lay_start ?_
  go_enter Tryz.func186, Tryz.ntmps186
  go_wp2_with fail
  go_loopw [3, 4] (fun v3 v4 wr => ∃ (k : Nat) (e : Ext), (k : Int) + 1 ≤ m ∧ v3 = .int .i64 (d + monI y k) ∧ v4 = .int .i64 ((k : Int) + 1) ∧ wr = lay w [.inr e, .inl (.cells #[.int .i64 y, .int .i64 m, .int .i64 d] 135 (0, 0))]) (fun _ v4 _ => m.toNat - (intOf v4).toNat)
  case atStart => exact ⟨0, noExt _, by omega, by simp [monI], rfl, (bw_noExt _).symm⟩
  case round =>
    obtain ⟨k, e, hk, rfl, rfl, rfl⟩ := hrel
    by_cases hlt : (k : Int) + 1 < m
    · have b1 := HB.out k
      have b2 := HY.out ((k : Int) + 1)
      have b3 := HS.out k
      have HDk := Lib.hid (fun W => HD.out ((k : Int) + 1) W (by omega) (by omega))
      clear HD HB HS HY
      generalize monI y k = M at *
      generalize dysI y ((k : Int) + 1) = D at *
      obtain ⟨b11, b12⟩ := b1
      obtain ⟨b21, b22⟩ := b2
      go_wp2_with (go_at_call 230; refine (HDk.out _).mono ?_; rintro e w' ⟨rfl, e2, rfl⟩)
      go_roundw
      case rel => exact ⟨k + 1, _, by omega, by rw [← b3], by go_num, Classical.choose_spec (lay_fold w [_, _] _)⟩
      case measure => simp [intOf]; omega
    · have HM : Hid ((m - 1).toNat = k) := Lib.hid (by omega)
      go_wp2_with fail
      go_ret
      exact ⟨ret_int (by have := HM.out; rw [show m.toNat - 1 = k by omega]), lay_ex _ _⟩
theorem numI_bd {y m d : Int} (h : dateB y m d = true) : -800000 ≤ numI y m d ∧ numI y m d ≤ 4000000 := by
  obtain ⟨⟨a, b⟩, ⟨c, e⟩, f, g⟩ := dateB_iff.1 h
  have := befI_bd a b
  have := monI_bd y (m - 1).toNat
  have := dysI_bd y m
  unfold numI; omega
set_option maxHeartbeats 1000000 in
theorem cal_number (y m d : Int) (w : World) (h : dateB y m d = true) :
    Calls Tryz.prog 131 #[.agg #[.int .i64 y, .int .i64 m, .int .i64 d]] w fun e w' => e = .returned (.int .i64 (numI y m d)) ∧ ∃ d, w' = bw w d := by
  obtain ⟨⟨a, b⟩, ⟨c, e⟩, f, g⟩ := dateB_iff.1 h
  have k1 := dysI_bd y m
  have H1 := Lib.hid (fun W => cal_before y W a b)
  have H2 := Lib.hid (fun W => cal_before 2000 W (by decide) (by decide))
  rw [bef2000] at H2
  have H3 := Lib.hid (fun W => cal_dayOfYear y m d W (by omega) c e f (by omega))
  have b1 := befI_bd a b
  have b2 := monI_bd y (m - 1).toNat
  unfold numI
  generalize befI y = B at *
  generalize monI y (m - 1).toNat = M at *
  have b3 : 0 ≤ M ∧ M ≤ 400 := by omega
  obtain ⟨b11, b12⟩ := b1
  obtain ⟨b31, b32⟩ := b3
  have f2 : d ≤ 31 := by omega
  clear b2 g h k1
  refine lay_start ?_
  go_enter Tryz.func131, Tryz.ntmps131
  go_wp2_with fail
  refine region_bw (by kernel_rfl) (by kernel_rfl) ?_
  repeat (go_big_quiet_step ((first | (go_at_call 169; first | ((with_reducible refine bqs (H1.out _) ?_); exact ⟨_, rfl⟩) | ((with_reducible refine bqs (H2.out _) ?_); exact ⟨_, rfl⟩)) | (go_at_call 170; exact bq (H3.out _) (fun d => ⟨d, rfl⟩)) | (go_at_call 170; exact bq (H3.out _) (fun d => lay_join _ _ _ d)))))
  refine wpQuiet_nil ?_
  rintro w' ⟨d, rfl⟩
  rw [lay_bw]
  go_wp2_with fail
  go_ret
  exact ⟨ret_int (by omega), lay_ex _ _⟩
set_option maxHeartbeats 1000000 in
theorem ref09_Number (y m d : Int) (w : World) (h : dateB y m d = true) :
    Calls Tryz.prog 149 #[.agg #[.int .i64 y, .int .i64 m, .int .i64 d]] w fun e w' => e = .returned (.int .i64 (numI y m d)) ∧ ∃ d, w' = bw w d := by
  obtain ⟨⟨a, b⟩, ⟨c, e⟩, f, g⟩ := dateB_iff.1 h
  have k1 := dysI_bd y m
  have H1 := Lib.hid (fun W => ref09_before y W a b)
  have H2 := Lib.hid (fun W => ref09_before 2000 W (by decide) (by decide))
  rw [bef2000] at H2
  have H3 := Lib.hid (fun W => ref09_DayOfYear y m d W (by omega) c e f (by omega))
  have b1 := befI_bd a b
  have b2 := monI_bd y (m - 1).toNat
  unfold numI
  generalize befI y = B at *
  generalize monI y (m - 1).toNat = M at *
  have b3 : 0 ≤ M ∧ M ≤ 400 := by omega
  obtain ⟨b11, b12⟩ := b1
  obtain ⟨b31, b32⟩ := b3
  have f2 : d ≤ 31 := by omega
  clear b2 g h k1
  refine lay_start ?_
  go_enter Tryz.func149, Tryz.ntmps149
  go_wp2_with fail
  refine region_bw (by kernel_rfl) (by kernel_rfl) ?_
  repeat (go_big_quiet_step ((first | (go_at_call 185; first | ((with_reducible refine bqs (H1.out _) ?_); exact ⟨_, rfl⟩) | ((with_reducible refine bqs (H2.out _) ?_); exact ⟨_, rfl⟩)) | (go_at_call 186; exact bq (H3.out _) (fun d => ⟨d, rfl⟩)) | (go_at_call 186; exact bq (H3.out _) (fun d => lay_join _ _ _ d)))))
  refine wpQuiet_nil ?_
  rintro w' ⟨d, rfl⟩
  rw [lay_bw]
  go_wp2_with fail
  go_ret
  exact ⟨ret_int (by omega), lay_ex _ _⟩
set_option maxHeartbeats 400000 in
theorem cal_right (y m : Int) (w : World) :
    Calls Tryz.prog 167 #[.int .i64 y, .int .i64 m] w fun e w' => e = .returned (.bool (decide ((1 ≤ y ∧ y ≤ 9999) ∧ 1 ≤ m ∧ m ≤ 12))) ∧ w' = w := by
  go_enter Tryz.func167, Tryz.ntmps167
  go_wp2_with fail
  all_goals go_ret
  all_goals exact ⟨ret_bool (by first | (simp [*]; done) | (rw [Bool.eq_iff_iff]; simp; omega)), rfl⟩
set_option maxHeartbeats 1000000 in
theorem cal_Valid (y m d : Int) (w : World) :
    Calls Tryz.prog 130 #[.agg #[.int .i64 y, .int .i64 m, .int .i64 d]] w fun e w' => e = .returned (.bool (dateB y m d)) ∧ ∃ d, w' = bw w d := by
  have HR := Lib.hid (fun W => cal_right y m W)
  by_cases h : (1 ≤ y ∧ y ≤ 9999) ∧ 1 ≤ m ∧ m ≤ 12
  · have HD := Lib.hid (fun W => cal_days y m W (by omega) h.2.1 h.2.2)
    rw [decide_eq_true h] at HR
    have e : dateB y m d = (decide (1 ≤ d) && decide (d ≤ dysI y m)) := by rw [Bool.eq_iff_iff, dateB_iff]; simp only [Bool.and_eq_true, decide_eq_true_eq]; omega
    rw [e]
    clear h e
    generalize dysI y m = D at *
    by_cases h1 : 1 ≤ d
    · have t1 : decide (1 ≤ d) = true := decide_eq_true h1
      clear h1
      rw [t1, Bool.true_and]
      refine lay_start ?_
      go_enter Tryz.func130, Tryz.ntmps130
      go_wp2_with fail
      refine region_bw (by kernel_rfl) (by kernel_rfl) ?_
      repeat (go_big_quiet_step ((first | (go_at_call 167; (with_reducible refine bqs (HR.out _) ?_); exact ⟨_, rfl⟩) | (go_at_call 168; exact bq (HD.out _) (fun d => ⟨d, rfl⟩)) | (go_at_call 168; exact bq (HD.out _) (fun d => lay_join _ _ _ d)))))
      refine wpQuiet_nil ?_
      rintro w' ⟨d, rfl⟩
      rw [lay_bw]
      go_wp2_with fail
      go_ret
      exact ⟨rfl, lay_ex _ _⟩
    · have t1 : decide (1 ≤ d) = false := decide_eq_false h1
      clear h1
      rw [t1, Bool.false_and]
      refine lay_start ?_
      go_enter Tryz.func130, Tryz.ntmps130
      go_wp2_with fail
      refine region_bw (by kernel_rfl) (by kernel_rfl) ?_
      repeat (go_big_quiet_step ((first | (go_at_call 167; (with_reducible refine bqs (HR.out _) ?_); exact ⟨_, rfl⟩))))
      refine wpQuiet_nil ?_
      rintro w' ⟨d, rfl⟩
      rw [lay_bw]
      go_wp2_with fail
      go_ret
      exact ⟨rfl, lay_ex _ _⟩
  · rw [decide_eq_false h] at HR
    have e : dateB y m d = false := by
      cases hd : dateB y m d
      · rfl
      · exact absurd ⟨(dateB_iff.1 hd).1, (dateB_iff.1 hd).2.1⟩ h
    rw [e]
    clear h e
    refine lay_start ?_
    go_enter Tryz.func130, Tryz.ntmps130
    go_wp2_with fail
    refine region_bw (by kernel_rfl) (by kernel_rfl) ?_
    repeat (go_big_quiet_step ((first | (go_at_call 167; (with_reducible refine bqs (HR.out _) ?_); exact ⟨_, rfl⟩))))
    refine wpQuiet_nil ?_
    rintro w' ⟨d, rfl⟩
    rw [lay_bw]
    go_wp2_with fail
    go_ret
    exact ⟨rfl, lay_ex _ _⟩
set_option maxHeartbeats 1000000 in
theorem cal_Number (y m d : Int) (w : World) :
    Calls Tryz.prog 90 #[.agg #[.int .i64 y, .int .i64 m, .int .i64 d]] w fun e w' => e = .returned (.tuple #[.int .i64 (if dateB y m d = true then numI y m d else 0), .int .i64 (if dateB y m d = true then 0 else 1)]) ∧ ∃ d, w' = bw w d := by
  have HV := Lib.hid (fun W => cal_Valid y m d W)
  cases h : dateB y m d
  · rw [h] at HV
    rw [if_neg Bool.false_ne_true, if_neg Bool.false_ne_true]
    refine lay_start ?_
    go_enter Tryz.func90, Tryz.ntmps90
    go_wp2_with (go_at_call 130; refine (HV.out _).mono ?_; rintro e w' ⟨rfl, e1, rfl⟩)
    go_ret2
    exact ⟨rfl, lay_ex _ _⟩
  · have HN := Lib.hid (fun W => cal_number y m d W h)
    rw [h] at HV
    rw [if_pos rfl, if_pos rfl]
    generalize numI y m d = N at *
    clear h
    refine lay_start ?_
    go_enter Tryz.func90, Tryz.ntmps90
    go_wp2_with (first | (go_at_call 130; refine (HV.out _).mono ?_; rintro e w' ⟨rfl, e1, rfl⟩) | (go_at_call 131; refine (HN.out _).mono ?_; rintro e w' ⟨rfl, e2, rfl⟩))
    go_ret2
    exact ⟨rfl, lay_ex _ _⟩
end Go.Proofs.YthjfadfebhjhbaaGreat

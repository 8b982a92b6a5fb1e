/- Contracts and plain laws, several texts in one: Idf; Mpb; Cal; Cal2; Pg2; Pg3 -/
import Derived.Test.YtnnmfdeeicpdlaaGreatProg
import Derived.WalkKit
import Derived.WalkSpells
import Derived.WalkLawsBesides
import Derived.Lib.Hide
import Derived.BigQuiet
import Derived.Maps.Own
import Derived.Maps.OwnOps
import Derived.Maps.Views
import Derived.Deep.RegionWith
import Derived.Test.YtnnmfdeeicpdlaaGreatSAA
import Derived.Test.YtnnmfdeeicpdlaaGreatSAD
import Derived.Test.YtnnmfdeeicpdlaaGreatSAF
import Derived.Test.YtnnmfdeeicpdlaaGreatSAI
import Derived.Test.YtnnmfdeeicpdlaaGreatSAJ
/- slices.IndexFunc and ContainsFunc over pages and tracks, for whatever closure. -/
namespace Go.Proofs.YtnnmfdeeicpdlaaGreat
set_option maxHeartbeats 1000000
open Go.RowKit

theorem pg_IndexFunc (g : FuncId) (lb : List Value) (p : PgW → Bool) (v : Value) (l : List PgW) (w : World) (hv : SlG pgR w v l)
    (eI : ∀ args w, (callFunc g args).run Tryz.prog w = .ok (.enter g args) w)
    (hf : ∀ x ∈ l, ∀ d, Calls Tryz.prog g (.agg (pgR.enc x).toArray :: lb).toArray (bw w d) fun e w' => e = .returned (.bool (p x)) ∧ ∃ d, w' = bw w d) :
    Calls Tryz.prog 153 #[v, .func (.func g) #[] lb.toArray] w (IdxPost w (idxR p l 0)) := by
  by_cases hz : l = []
  · subst hz
    obtain ⟨a, cap, rfl⟩ := hv.form
    clear hf
    refine lay_start ?_
    go_enter Tryz.func153, Tryz.ntmps153
    go_wp2_with fail
    refine wp_loop_rounds 1 ?_
    rw [rounds_succ]
    go_wp2
    go_ret
    exact ⟨rfl, lay_ex _ _⟩
  · obtain ⟨b, o, cap, rfl, hc, hb, hr⟩ := hv.open (List.length_pos_iff.2 hz)
    obtain ⟨m, hm⟩ : ∃ m, l.length = m := ⟨_, rfl⟩
    have HF := Lib.hid hf
    have HM := Lib.hid hm
    rw [hm] at hc ⊢
    have HR : Hid (∀ i x, l[i]? = some x → w.cell? ⟨b, o + i * 4, none⟩ = some (.int .i64 x.y) ∧ w.cell? ⟨b, o + i * 4 + 1, none⟩ = some (.int .i64 x.m) ∧ w.cell? ⟨b, o + i * 4 + 2, none⟩ = some (.int .i64 x.d) ∧ w.cell? ⟨b, o + i * 4 + 3, none⟩ = some (.slice x.ta x.tn x.tc)) :=
      Lib.hid (fun i x hx => ⟨hr i x hx 0 _ rfl, hr i x hx 1 _ rfl, hr i x hx 2 _ rfl, hr i x hx 3 _ rfl⟩)
    clear hf hz hm hr hv
    refine lay_start ?_
    go_enter Tryz.func153, Tryz.ntmps153
    go_wp2_with fail
    go_loopw [8] (fun i wr => ∃ (k : Nat) (d : Ext), k ≤ m ∧ i = .int .i64 k ∧ wr = lay w [.inr d] ∧ idxR p l 0 = idxR p (l.drop k) k) (fun i _ => m - (intOf i).toNat)
    case atStart => exact ⟨0, noExt _, Nat.zero_le _, rfl, (bw_noExt _).symm, rfl⟩
    case round =>
      obtain ⟨k, d, hk, rfl, rfl, hA⟩ := hrel
      have HA := Lib.hid hA
      clear hA
      by_cases hlt : k < m
      · obtain ⟨x, hx⟩ : ∃ x, l[k]? = some x := ⟨_, List.getElem?_eq_getElem (by rw [HM.out]; exact hlt)⟩
        obtain ⟨e0, e1, e2, e3⟩ := HR.out k x hx
        have H1 : Hid (Calls Tryz.prog g (.agg #[.int .i64 x.y, .int .i64 x.m, .int .i64 x.d, .slice x.ta x.tn x.tc] :: lb).toArray (lay w [.inr d]) fun e w' => e = .returned (.bool (p x)) ∧ ∃ d, w' = bw w d) := Lib.hid (HF.out x (List.mem_of_getElem? hx) d)
        cases ho : p x
        · have HN := Lib.hid (idxR_miss hx ho HA.out)
          rw [ho] at H1
          clear ho hx
          obtain ⟨y0, y1, y2, y3, y4, y5⟩ := x
          dsimp only at e0 e1 e2 e3 H1
          go_wp2_with (refine H1.out.mono ?_; rintro e w' ⟨rfl, d1, rfl⟩)
          go_roundw
          case rel => exact ⟨k + 1, d1, by omega, by go_num, rfl, HN.out⟩
          case measure => simp [intOf]; omega
        · have HN := Lib.hid (idxR_got hx ho HA.out)
          rw [ho] at H1
          clear ho hx
          obtain ⟨y0, y1, y2, y3, y4, y5⟩ := x
          dsimp only at e0 e1 e2 e3 H1
          go_wp2_with (refine H1.out.mono ?_; rintro e w' ⟨rfl, d1, rfl⟩)
          go_ret
          exact ⟨ret_int HN.out, d1, rfl⟩
      · have HN := Lib.hid (idxR_end (k := k) (by rw [HM.out]; omega) HA.out)
        go_wp2
        go_ret
        exact ⟨ret_int HN.out, lay_ex _ _⟩
theorem pg_ContainsFunc (g : FuncId) (lb : List Value) (p : PgW → Bool) (v : Value) (l : List PgW) (w : World) (hv : SlG pgR w v l)
    (eI : ∀ args w, (callFunc g args).run Tryz.prog w = .ok (.enter g args) w)
    (hf : ∀ x ∈ l, ∀ d, Calls Tryz.prog g (.agg (pgR.enc x).toArray :: lb).toArray (bw w d) fun e w' => e = .returned (.bool (p x)) ∧ ∃ d, w' = bw w d) :
    Calls Tryz.prog 63 #[v, .func (.func g) #[] lb.toArray] w fun e w' => e = .returned (.bool (l.any p)) ∧ ∃ d, w' = bw w d := by
  have H := Lib.hid (pg_IndexFunc g lb p v l w hv eI hf)
  have HS := Lib.hid (idxR_any p l 0)
  generalize idxR p l 0 = x at *
  generalize l.any p = y at *
  clear hf eI hv
  refine lay_start ?_
  go_enter Tryz.func63, Tryz.ntmps63
  go_wp2_with (go_at_call 153; refine H.out.mono ?_; rintro e w' ⟨rfl, d, rfl⟩)
  go_ret
  exact ⟨ret_bool HS.out, _, rfl⟩
theorem tk_IndexFunc (g : FuncId) (lb : List Value) (p : TkW → Bool) (v : Value) (l : List TkW) (w : World) (hv : SlG tkR w v l)
    (eI : ∀ args w, (callFunc g args).run Tryz.prog w = .ok (.enter g args) w)
    (hf : ∀ x ∈ l, ∀ d, Calls Tryz.prog g (.agg (tkR.enc x).toArray :: lb).toArray (bw w d) fun e w' => e = .returned (.bool (p x)) ∧ ∃ d, w' = bw w d) :
    Calls Tryz.prog 240 #[v, .func (.func g) #[] lb.toArray] w (IdxPost w (idxR p l 0)) := by
  by_cases hz : l = []
  · subst hz
    obtain ⟨a, cap, rfl⟩ := hv.form
    clear hf
    refine lay_start ?_
    go_enter Tryz.func240, Tryz.ntmps240
    go_wp2_with fail
    refine wp_loop_rounds 1 ?_
    rw [rounds_succ]
    go_wp2
    go_ret
    exact ⟨rfl, lay_ex _ _⟩
  · obtain ⟨b, o, cap, rfl, hc, hb, hr⟩ := hv.open (List.length_pos_iff.2 hz)
    obtain ⟨m, hm⟩ : ∃ m, l.length = m := ⟨_, rfl⟩
    have HF := Lib.hid hf
    have HM := Lib.hid hm
    rw [hm] at hc ⊢
    have HR : Hid (∀ i x, l[i]? = some x → w.cell? ⟨b, o + i * 6, none⟩ = some (.string x.s) ∧ w.cell? ⟨b, o + i * 6 + 1, none⟩ = some (.slice x.ga x.gn x.gc) ∧ w.cell? ⟨b, o + i * 6 + 2, none⟩ = some (.slice x.da x.dn x.dc) ∧ w.cell? ⟨b, o + i * 6 + 3, none⟩ = some (.int .i64 x.p) ∧ w.cell? ⟨b, o + i * 6 + 4, none⟩ = some (.int .i64 x.q) ∧ w.cell? ⟨b, o + i * 6 + 5, none⟩ = some (.int .i64 x.r)) :=
      Lib.hid (fun i x hx => ⟨hr i x hx 0 _ rfl, hr i x hx 1 _ rfl, hr i x hx 2 _ rfl, hr i x hx 3 _ rfl, hr i x hx 4 _ rfl, hr i x hx 5 _ rfl⟩)
    clear hf hz hm hr hv
    refine lay_start ?_
    go_enter Tryz.func240, Tryz.ntmps240
    go_wp2_with fail
    go_loopw [8] (fun i wr => ∃ (k : Nat) (d : Ext), k ≤ m ∧ i = .int .i64 k ∧ wr = lay w [.inr d] ∧ idxR p l 0 = idxR p (l.drop k) k) (fun i _ => m - (intOf i).toNat)
    case atStart => exact ⟨0, noExt _, Nat.zero_le _, rfl, (bw_noExt _).symm, rfl⟩
    case round =>
      obtain ⟨k, d, hk, rfl, rfl, hA⟩ := hrel
      have HA := Lib.hid hA
      clear hA
      by_cases hlt : k < m
      · obtain ⟨x, hx⟩ : ∃ x, l[k]? = some x := ⟨_, List.getElem?_eq_getElem (by rw [HM.out]; exact hlt)⟩
        obtain ⟨e0, e1, e2, e3, e4, e5⟩ := HR.out k x hx
        have H1 : Hid (Calls Tryz.prog g (.agg #[.string x.s, .slice x.ga x.gn x.gc, .slice x.da x.dn x.dc, .int .i64 x.p, .int .i64 x.q, .int .i64 x.r] :: lb).toArray (lay w [.inr d]) fun e w' => e = .returned (.bool (p x)) ∧ ∃ d, w' = bw w d) := Lib.hid (HF.out x (List.mem_of_getElem? hx) d)
        cases ho : p x
        · have HN := Lib.hid (idxR_miss hx ho HA.out)
          rw [ho] at H1
          clear ho hx
          obtain ⟨y0, y1, y2, y3, y4, y5, y6, y7, y8, y9⟩ := x
          dsimp only at e0 e1 e2 e3 e4 e5 H1
          go_wp2_with (refine H1.out.mono ?_; rintro e w' ⟨rfl, d1, rfl⟩)
          go_roundw
          case rel => exact ⟨k + 1, d1, by omega, by go_num, rfl, HN.out⟩
          case measure => simp [intOf]; omega
        · have HN := Lib.hid (idxR_got hx ho HA.out)
          rw [ho] at H1
          clear ho hx
          obtain ⟨y0, y1, y2, y3, y4, y5, y6, y7, y8, y9⟩ := x
          dsimp only at e0 e1 e2 e3 e4 e5 H1
          go_wp2_with (refine H1.out.mono ?_; rintro e w' ⟨rfl, d1, rfl⟩)
          go_ret
          exact ⟨ret_int HN.out, d1, rfl⟩
      · have HN := Lib.hid (idxR_end (k := k) (by rw [HM.out]; omega) HA.out)
        go_wp2
        go_ret
        exact ⟨ret_int HN.out, lay_ex _ _⟩
end Go.Proofs.YtnnmfdeeicpdlaaGreat
/- A set of strings kept as a map of bools of the call's own. No function of the program. -/
namespace Go.Proofs.YtnnmfdeeicpdlaaGreat
open Go.RowKit Go.Maps

theorem atKey_fold {H : Type} (u z : DataW H) (k : Lit) : ∀ (acc : List Lit) (m : DataW H), IsMap m → (∀ x ∈ acc, WideAt.IsKeyLit x) →
    (acc.foldl (fun m x => m.put x u) m).atKey k z = if acc.any (fun x => x.sameKey k) = true then u else m.atKey k z
  | [], m, _, _ => rfl
  | x :: acc, m, hm, hk => by
    rw [List.foldl_cons, atKey_fold u z k acc (m.put x u) (hm.put x u) (fun y hy => hk y (List.mem_cons_of_mem _ hy)), List.any_cons]
    have hx := hk x (List.mem_cons_self ..)
    by_cases h : x = k
    · subst h
      rw [WideAt.sameKey_self hx, Bool.true_or, atKey_put_same hm hx]
      split <;> rfl
    · have h' : k ≠ x := fun e => h e.symm
      rw [sameKey_ne h, Bool.false_or, atKey_put_other h']
theorem atKey_setOf {H : Type} (u z : DataW H) (k : Lit) (acc : List Lit) (hk : ∀ x ∈ acc, WideAt.IsKeyLit x) (hz : (DataW.map [] : DataW H).atKey k z = z) : (setOf u acc).atKey k z = if acc.any (fun x => x.sameKey k) = true then u else z := by
  unfold setOf
  rw [atKey_fold u z k acc _ isMap_empty hk, hz]
def keyS (s : ByteArray) : Lit := .string s.data.toList
def setS (l : List ByteArray) : DataW Unit := setOf (.lit (.bool true)) (l.map keyS)
theorem keyS_lit (l : List ByteArray) : ∀ x ∈ l.map keyS, WideAt.IsKeyLit x := fun x hx => by
  obtain ⟨s, _, rfl⟩ := List.mem_map.1 hx
  trivial
theorem setS_snoc (l : List ByteArray) (s : ByteArray) : setS (l ++ [s]) = (setS l).put (keyS s) (.lit (.bool true)) := by
  unfold setS
  rw [List.map_append]
  exact setOf_snoc _ _ _
theorem key_same (a b : ByteArray) : (keyS a).sameKey (keyS b) = (a.toList == b.toList) := by
  rw [ByteArray.toList_eq, ByteArray.toList_eq]
  by_cases h : a.data.toList = b.data.toList
  · rw [h, beq_self_eq_true]
    unfold keyS
    rw [h]
    exact WideAt.sameKey_self trivial
  · rw [beq_eq_false_iff_ne.2 h]
    exact sameKey_ne (fun e => h (by unfold keyS at e; injection e))
theorem setS_at (l : List ByteArray) (s : ByteArray) : (setS l).atKey (keyS s) (.lit (.bool false)) = .lit (.bool (l.any fun x => x.toList == s.toList)) := by
  unfold setS
  rw [atKey_setOf _ _ _ _ (keyS_lit l) rfl, List.any_map]
  have : ((fun x => Lit.sameKey x (keyS s)) ∘ keyS) = fun x : ByteArray => x.toList == s.toList := funext fun x => key_same x s
  rw [this]
  cases l.any fun x => x.toList == s.toList <;> rfl
set_option maxRecDepth 100000 in
theorem zero_bool (w : World) : (zeroValue 4).run Tryz.prog w = .ok (.bool false) w := by kernel_rfl
theorem plain_bool_inv {v : Value} {x : Bool} {ps : List MemPlace} (h : plainElem (H := Unit) Tryz.prog 4 v = some (.lit (.bool x), ps)) : v = .bool x := by
  unfold plainElem at h
  have hu := Tryz.underlying4
  generalize Tryz.prog.underlying 4 = U at *
  subst hu
  cases v <;> simp_all
def OwnS (w : World) (b : Nat) (l : List ByteArray) : Prop := w.ownsMap Tryz.prog 9 (plainElem (H := Unit) Tryz.prog 4) b l.length (setS l)
theorem ownS_new (w : World) : OwnS (w.alloc (.map #[] 0)) w.heap.size [] := World.ownsMap_made _ _ _ _
theorem ownS_on {w : World} {b : Nat} {l : List ByteArray} {A B : List (Obj ⊕ Ext)} (h : OwnS (lay w B) b l) : OwnS (lay w (A ++ B)) b l := by
  have hb := lay_belowG (w := w) (A := A) (B := B)
  exact World.ownsMap.kept (row := none) h ⟨hb.1, hb.2, hb.3, hb.size, fun k hk _ => hb.block k hk⟩ (by simp)
theorem law_str : Keyed Tryz.prog 9 := string_keyed Tryz.underlying9
theorem ownS_look {w : World} {b : Nat} {l : List ByteArray} (h : OwnS w b l) (s : ByteArray) (hs : s.size ≤ maxLen) : (Instr.lookup 189 (.map (some b)) (.string s) false).run Tryz.prog w = .ok (.bool (l.any fun x => x.toList == s.toList)) w := by
  obtain ⟨v, ps, hr, hv⟩ := World.ownsMap.lookup h law_str Tryz.underlying189 (zero_bool w) (plainElem_bool Tryz.underlying4 false) (WideMaps.keyOf_string_mk Tryz.underlying9 hs)
  rw [show (Lit.string s.data.toList) = keyS s from rfl, setS_at] at hv
  rw [hr, plain_bool_inv hv]
theorem put_name {ops : Array Oper} {rest : List Oper} {o : Oper} {a : Act} {Q : Exit → Act → World → Prop} (hg : o.guard = none) (m x v : Operand) (hop : o.op = Op.mapUpdate 189 m x v)
    (W0 w : World) (b : Nat) (l : List ByteArray) (s : ByteArray) (hw : Below W0.heap.size W0 w) (hb : W0.heap.size ≤ b) (hm : a.eval m = .map (some b)) (hx : a.eval x = .string s) (hv : a.eval v = .bool true)
    (hown : OwnS w b l) (hs : s.size ≤ maxLen) (hl : l.length ≤ 1000)
    (h : ∀ d, OwnS (Go.Proofs.YtnnmfdeeicpdlaaGreat.bw W0 d) b (l ++ [s]) → wpList Tryz.prog ops Q rest (a.put o.dst undef) (Go.Proofs.YtnnmfdeeicpdlaaGreat.bw W0 d)) :
    wpList Tryz.prog ops Q (o :: rest) a w := by
  refine wpList_mapUpdate_own w hg m x v 189 hop 9 4 law_str Tryz.underlying189 _ b l.length (setS l) hm hown (by unfold maxLen; omega) (.string s) (.bool true) (keyS s) hx hv (WideMaps.keyOf_string_mk Tryz.underlying9 hs) _ [] (plainElem_bool Tryz.underlying4 true) ?_
  intro w' h1 h2
  obtain ⟨d, rfl⟩ := bw_of (w := W0) (w' := w') (hw.grown h2 hw.size (fun k hk => by cases hk; exact hb))
  refine h d ?_
  unfold OwnS
  rw [setS_snoc, List.length_append]
  exact h1
end Go.Proofs.YtnnmfdeeicpdlaaGreat
/- Dates: package calendar's numbers and the reference's. -/
namespace Go.Proofs.YtnnmfdeeicpdlaaGreat
set_option maxHeartbeats 1000000
set_option maxRecDepth 100000
open Go.RowKit

def leapB (y : Int) : Bool := decide (y % 4 = 0 ∧ (y % 100 ≠ 0 ∨ y % 400 = 0))
def dysI (y m : Int) : Int := if m = 2 then (if leapB y = true then 29 else 28) else if m = 4 ∨ m = 6 ∨ m = 9 ∨ m = 11 then 30 else 31
theorem dysI_bd (y m : Int) : 28 ≤ dysI y m ∧ dysI y m ≤ 31 := by unfold dysI; split <;> (try split) <;> omega
def befI (y : Int) : Int := 365 * (y - 1) + (y - 1) / 4 - (y - 1) / 100 + (y - 1) / 400
theorem befI_bd {y : Int} (h0 : 1 ≤ y) (h1 : y ≤ 9999) : 0 ≤ befI y ∧ befI y ≤ 4000000 := by unfold befI; omega
def monI (y : Int) : Nat → Int
  | 0 => 0
  | k + 1 => monI y k + dysI y ((k : Int) + 1)
theorem monI_bd (y : Int) : ∀ k : Nat, 0 ≤ monI y k ∧ monI y k ≤ 31 * (k : Int)
  | 0 => by simp [monI]
  | k + 1 => by
    have := monI_bd y k
    have := dysI_bd y ((k : Int) + 1)
    simp only [monI]; omega
def numI (y m d : Int) : Int := befI y + (d + monI y (m - 1).toNat) - 730119 - 1
def dateB (y m d : Int) : Bool := decide ((1 ≤ y ∧ y ≤ 9999) ∧ (1 ≤ m ∧ m ≤ 12) ∧ 1 ≤ d ∧ d ≤ dysI y m)
theorem dateB_iff {y m d : Int} : dateB y m d = true ↔ (1 ≤ y ∧ y ≤ 9999) ∧ (1 ≤ m ∧ m ≤ 12) ∧ 1 ≤ d ∧ d ≤ dysI y m := by simp [dateB]
theorem bef2000 : befI 2000 = 730119 := by decide
theorem tm_eq {y c : Int} (h : 0 ≤ y) : y.tmod c = y % c := Int.tmod_eq_emod_of_nonneg h
theorem td_eq {y c : Int} (h : 0 ≤ y) : y.tdiv c = y / c := Int.tdiv_eq_ediv_of_nonneg h
theorem leap_ways {y : Int} : (leapB y = true ∧ y % 4 = 0 ∧ (y % 100 != 0) = true ∧ (y % 100 == 0) = false) ∨ (leapB y = true ∧ y % 4 = 0 ∧ y % 100 = 0 ∧ y % 400 = 0) ∨
    (leapB y = false ∧ y % 4 = 0 ∧ y % 100 = 0 ∧ (y % 400 == 0) = false) ∨ (leapB y = false ∧ (y % 4 == 0) = false ∧ (y % 400 == 0) = false) := by
  unfold leapB
  simp only [decide_eq_true_eq, decide_eq_false_iff_not, beq_eq_false_iff_ne, bne_iff_ne, ne_eq]
  omega
theorem cal_Leap (y : Int) (w : World) (h0 : 0 ≤ y) :
    Calls Tryz.prog 261 #[.int .i64 y] w fun e w' => e = .returned (.bool (leapB y)) ∧ w' = w := by
  obtain ⟨A, eA⟩ : ∃ A, y % 4 = A := ⟨_, rfl⟩
  obtain ⟨B, eB⟩ : ∃ B, y % 100 = B := ⟨_, rfl⟩
  obtain ⟨C, eC⟩ : ∃ C, y % 400 = C := ⟨_, rfl⟩
  have e1 : y.tmod 4 = A := (tm_eq h0).trans eA
  have e2 : y.tmod 100 = B := (tm_eq h0).trans eB
  have e3 : y.tmod 400 = C := (tm_eq h0).trans eC
  have hw := leap_ways (y := y)
  rw [eA, eB, eC] at hw
  clear eA eB eC h0
  rcases hw with ⟨h, rfl, b2, b⟩ | ⟨h, rfl, rfl, rfl⟩ | ⟨h, rfl, rfl, c⟩ | ⟨h, a, c⟩
  all_goals
    rw [h]
    clear h
    go_enter Tryz.func261, Tryz.ntmps261
    go_wp2_with fail
    go_ret
    exact ⟨rfl, rfl⟩
theorem ref09_Leap (y : Int) (w : World) (h0 : 0 ≤ y) :
    Calls Tryz.prog 353 #[.int .i64 y] w fun e w' => e = .returned (.bool (leapB y)) ∧ w' = w := by
  obtain ⟨A, eA⟩ : ∃ A, y % 4 = A := ⟨_, rfl⟩
  obtain ⟨B, eB⟩ : ∃ B, y % 100 = B := ⟨_, rfl⟩
  obtain ⟨C, eC⟩ : ∃ C, y % 400 = C := ⟨_, rfl⟩
  have e1 : y.tmod 4 = A := (tm_eq h0).trans eA
  have e2 : y.tmod 100 = B := (tm_eq h0).trans eB
  have e3 : y.tmod 400 = C := (tm_eq h0).trans eC
  have hw := leap_ways (y := y)
  rw [eA, eB, eC] at hw
  clear eA eB eC h0
  rcases hw with ⟨h, rfl, b2, b⟩ | ⟨h, rfl, rfl, rfl⟩ | ⟨h, rfl, rfl, c⟩ | ⟨h, a, c⟩
  all_goals
    rw [h]
    clear h
    go_enter Tryz.func353, Tryz.ntmps353
    go_wp2_with fail
    go_ret
    exact ⟨rfl, rfl⟩
def lenA : Array Value := #[.int .i64 31, .int .i64 28, .int .i64 31, .int .i64 30, .int .i64 31, .int .i64 30, .int .i64 31, .int .i64 31, .int .i64 30, .int .i64 31, .int .i64 30, .int .i64 31]
set_option maxRecDepth 100000
theorem ix_0 (w : World) : (Instr.index 252 (.agg lenA) (.int .i64 0)).run Tryz.prog w = .ok (.int .i64 31) w := by kernel_rfl
theorem ix_1 (w : World) : (Instr.index 252 (.agg lenA) (.int .i64 1)).run Tryz.prog w = .ok (.int .i64 28) w := by kernel_rfl
theorem ix_2 (w : World) : (Instr.index 252 (.agg lenA) (.int .i64 2)).run Tryz.prog w = .ok (.int .i64 31) w := by kernel_rfl
theorem ix_3 (w : World) : (Instr.index 252 (.agg lenA) (.int .i64 3)).run Tryz.prog w = .ok (.int .i64 30) w := by kernel_rfl
theorem ix_4 (w : World) : (Instr.index 252 (.agg lenA) (.int .i64 4)).run Tryz.prog w = .ok (.int .i64 31) w := by kernel_rfl
theorem ix_5 (w : World) : (Instr.index 252 (.agg lenA) (.int .i64 5)).run Tryz.prog w = .ok (.int .i64 30) w := by kernel_rfl
theorem ix_6 (w : World) : (Instr.index 252 (.agg lenA) (.int .i64 6)).run Tryz.prog w = .ok (.int .i64 31) w := by kernel_rfl
theorem ix_7 (w : World) : (Instr.index 252 (.agg lenA) (.int .i64 7)).run Tryz.prog w = .ok (.int .i64 31) w := by kernel_rfl
theorem ix_8 (w : World) : (Instr.index 252 (.agg lenA) (.int .i64 8)).run Tryz.prog w = .ok (.int .i64 30) w := by kernel_rfl
theorem ix_9 (w : World) : (Instr.index 252 (.agg lenA) (.int .i64 9)).run Tryz.prog w = .ok (.int .i64 31) w := by kernel_rfl
theorem ix_10 (w : World) : (Instr.index 252 (.agg lenA) (.int .i64 10)).run Tryz.prog w = .ok (.int .i64 30) w := by kernel_rfl
theorem ix_11 (w : World) : (Instr.index 252 (.agg lenA) (.int .i64 11)).run Tryz.prog w = .ok (.int .i64 31) w := by kernel_rfl
set_option maxRecDepth 512
theorem cal_lengths (w : World) :
    Calls Tryz.prog 262 #[] w fun e w' => e = .returned (.agg lenA) ∧ ∃ d, w' = bw w d := by
  refine lay_start ?_
  unfold lenA
  go_enter Tryz.func262, Tryz.ntmps262
  go_wp2
  exact bodyPost_ret (v := .agg #[.int .i64 31, .int .i64 28, .int .i64 31, .int .i64 30, .int .i64 31, .int .i64 30, .int .i64 31, .int .i64 31, .int .i64 30, .int .i64 31, .int .i64 30, .int .i64 31]) (by simp [results, Tryz.results262, go_sem]) rfl ⟨rfl, lay_ex _ _⟩
theorem mon12 {m : Int} (h0 : 1 ≤ m) (h1 : m ≤ 12) : m = 1 ∨ m = 2 ∨ m = 3 ∨ m = 4 ∨ m = 5 ∨ m = 6 ∨ m = 7 ∨ m = 8 ∨ m = 9 ∨ m = 10 ∨ m = 11 ∨ m = 12 := by omega
theorem cal_days (y m : Int) (w : World) (hy : 0 ≤ y) (h0 : 1 ≤ m) (h1 : m ≤ 12) :
    Calls Tryz.prog 220 #[.int .i64 y, .int .i64 m] w fun e w' => e = .returned (.int .i64 (dysI y m)) ∧ ∃ d, w' = bw w d := by
  have HL := Lib.hid (fun W => cal_Leap y W hy)
  unfold dysI
  generalize leapB y = b at *
  clear hy
  rcases mon12 h0 h1 with rfl | rfl | rfl | rfl | rfl | rfl | rfl | rfl | rfl | rfl | rfl | rfl
  all_goals cases b
  all_goals
    clear h0 h1
    have ix0 := ix_0
    have ix1 := ix_1
    have ix2 := ix_2
    have ix3 := ix_3
    have ix4 := ix_4
    have ix5 := ix_5
    have ix6 := ix_6
    have ix7 := ix_7
    have ix8 := ix_8
    have ix9 := ix_9
    have ixA := ix_10
    have ixB := ix_11
    refine lay_start ?_
    go_enter Tryz.func220, Tryz.ntmps220
    go_wp2_with (first | (go_at_call 261; refine (HL.out _).mono ?_; rintro e w' ⟨rfl, rfl⟩) | (go_at_call 262; refine (cal_lengths _).mono ?_; rintro e w' ⟨rfl, d, rfl⟩))
    go_ret
    first | exact ⟨rfl, lay_ex _ _⟩ | exact ⟨rfl, noExt _, (bw_noExt _).symm⟩ | exact ⟨rfl, _, rfl⟩
theorem ref09_Days (y m : Int) (w : World) (hy : 0 ≤ y) (h0 : 1 ≤ m) (h1 : m ≤ 12) :
    Calls Tryz.prog 341 #[.int .i64 y, .int .i64 m] w fun e w' => e = .returned (.int .i64 (dysI y m)) ∧ ∃ d, w' = bw w d := by
  have HL := Lib.hid (fun W => ref09_Leap y W hy)
  unfold dysI
  generalize leapB y = b at *
  clear hy
  rcases mon12 h0 h1 with rfl | rfl | rfl | rfl | rfl | rfl | rfl | rfl | rfl | rfl | rfl | rfl
  all_goals cases b
  all_goals
    clear h0 h1
    refine lay_start ?_
    go_enter Tryz.func341, Tryz.ntmps341
    go_wp2_with (first | (go_at_call 353; refine (HL.out _).mono ?_; rintro e w' ⟨rfl, rfl⟩))
    go_ret
    first | exact ⟨rfl, lay_ex _ _⟩ | exact ⟨rfl, noExt _, (bw_noExt _).symm⟩ | exact ⟨rfl, _, rfl⟩
theorem cal_before (y : Int) (w : World) (h0 : 1 ≤ y) (h1 : y ≤ 9999) :
    Calls Tryz.prog 221 #[.int .i64 y] w fun e w' => e = .returned (.int .i64 (befI y)) ∧ w' = w := by
  have e1 := td_eq (y := y - 1) (c := 4) (by omega)
  have e2 := td_eq (y := y - 1) (c := 100) (by omega)
  have e3 := td_eq (y := y - 1) (c := 400) (by omega)
  unfold befI
  rw [← e1, ← e2, ← e3]
  have b1 : 0 ≤ (y - 1).tdiv 4 ∧ (y - 1).tdiv 4 ≤ 10000 := by omega
  have b2 : 0 ≤ (y - 1).tdiv 100 ∧ (y - 1).tdiv 100 ≤ 10000 := by omega
  have b3 : 0 ≤ (y - 1).tdiv 400 ∧ (y - 1).tdiv 400 ≤ 10000 := by omega
  clear e1 e2 e3
  go_enter Tryz.func221, Tryz.ntmps221
  go_wp2_with fail
  go_ret
  exact ⟨ret_int (by omega), rfl⟩
theorem ref09_before (y : Int) (w : World) (h0 : 1 ≤ y) (h1 : y ≤ 9999) :
    Calls Tryz.prog 306 #[.int .i64 y] w fun e w' => e = .returned (.int .i64 (befI y)) ∧ w' = w := by
  have e1 := td_eq (y := y - 1) (c := 4) (by omega)
  have e2 := td_eq (y := y - 1) (c := 100) (by omega)
  have e3 := td_eq (y := y - 1) (c := 400) (by omega)
  unfold befI
  rw [← e1, ← e2, ← e3]
  have b1 : 0 ≤ (y - 1).tdiv 4 ∧ (y - 1).tdiv 4 ≤ 10000 := by omega
  have b2 : 0 ≤ (y - 1).tdiv 100 ∧ (y - 1).tdiv 100 ≤ 10000 := by omega
  have b3 : 0 ≤ (y - 1).tdiv 400 ∧ (y - 1).tdiv 400 ≤ 10000 := by omega
  clear e1 e2 e3
  go_enter Tryz.func306, Tryz.ntmps306
  go_wp2_with fail
  go_ret
  exact ⟨ret_int (by omega), rfl⟩
end Go.Proofs.YtnnmfdeeicpdlaaGreat
/- Dates: valid ones, their numbers. -/
namespace Go.Proofs.YtnnmfdeeicpdlaaGreat
set_option maxHeartbeats 1000000
open Go.RowKit

theorem cal_dayOfYear (y m d : Int) (w : World) (hy : 0 ≤ y) (h0 : 1 ≤ m) (h1 : m ≤ 12) (d0 : 1 ≤ d) (d1 : d ≤ 31) :
    Calls Tryz.prog 222 #[.agg #[.int .i64 y, .int .i64 m, .int .i64 d]] w fun e w' => e = .returned (.int .i64 (d + monI y (m - 1).toNat)) ∧ ∃ d, w' = bw w d := by
  have HD := Lib.hid (fun j W (a : 1 ≤ j) (b : j ≤ 12) => cal_days y j W hy a b)
  have HB := Lib.hid (fun k => monI_bd y k)
  have HS : Hid (∀ k : Nat, d + monI y k + dysI y ((k : Int) + 1) = d + monI y (k + 1)) := Lib.hid (fun k => by simp only [monI]; omega)
  have HY := Lib.hid (fun j => dysI_bd y j)
  refine lay_start ?_
  go_enter Tryz.func222, Tryz.ntmps222
  go_wp2_with fail
  go_loopw [3, 4] (fun v3 v4 wr => ∃ (k : Nat) (e : Ext), (k : Int) + 1 ≤ m ∧ v3 = .int .i64 (d + monI y k) ∧ v4 = .int .i64 ((k : Int) + 1) ∧ wr = lay w [.inr e, .inl (.cells #[.int .i64 y, .int .i64 m, .int .i64 d] 105 (0, 0))]) (fun _ v4 _ => m.toNat - (intOf v4).toNat)
  case atStart => exact ⟨0, noExt _, by omega, by simp [monI], rfl, (bw_noExt _).symm⟩
  case round =>
    obtain ⟨k, e, hk, rfl, rfl, rfl⟩ := hrel
    by_cases hlt : (k : Int) + 1 < m
    · have b1 := HB.out k
      have b2 := HY.out ((k : Int) + 1)
      have b3 := HS.out k
      have HDk := Lib.hid (fun W => HD.out ((k : Int) + 1) W (by omega) (by omega))
      clear HD HB HS HY
      generalize monI y k = M at *
      generalize dysI y ((k : Int) + 1) = D at *
      obtain ⟨b11, b12⟩ := b1
      obtain ⟨b21, b22⟩ := b2
      go_wp2_with (go_at_call 220; refine (HDk.out _).mono ?_; rintro e w' ⟨rfl, e2, rfl⟩)
      go_roundw
      case rel => exact ⟨k + 1, _, by omega, by rw [← b3], by go_num, Classical.choose_spec (lay_fold w [_, _] _)⟩
      case measure => simp [intOf]; omega
    · have HM : Hid ((m - 1).toNat = k) := Lib.hid (by omega)
      go_wp2_with fail
      go_ret
      exact ⟨ret_int (by have := HM.out; rw [show m.toNat - 1 = k by omega]), lay_ex _ _⟩
theorem ref09_DayOfYear (y m d : Int) (w : World) (hy : 0 ≤ y) (h0 : 1 ≤ m) (h1 : m ≤ 12) (d0 : 1 ≤ d) (d1 : d ≤ 31) :
    Calls Tryz.prog 307 #[.agg #[.int .i64 y, .int .i64 m, .int .i64 d]] w fun e w' => e = .returned (.int .i64 (d + monI y (m - 1).toNat)) ∧ ∃ d, w' = bw w d := by
  have HD := Lib.hid (fun j W (a : 1 ≤ j) (b : j ≤ 12) => ref09_Days y j W hy a b)
  have HB := Lib.hid (fun k => monI_bd y k)
  have HS : Hid (∀ k : Nat, d + monI y k + dysI y ((k : Int) + 1) = d + monI y (k + 1)) := Lib.hid (fun k => by simp only [monI]; omega)
  have HY := Lib.hid (fun j => dysI_bd y j)
  refine lay_start ?_
  go_enter Tryz.func307, Tryz.ntmps307
  go_wp2_with fail
  go_loopw [3, 4] (fun v3 v4 wr => ∃ (k : Nat) (e : Ext), (k : Int) + 1 ≤ m ∧ v3 = .int .i64 (d + monI y k) ∧ v4 = .int .i64 ((k : Int) + 1) ∧ wr = lay w [.inr e, .inl (.cells #[.int .i64 y, .int .i64 m, .int .i64 d] 105 (0, 0))]) (fun _ v4 _ => m.toNat - (intOf v4).toNat)
  case atStart => exact ⟨0, noExt _, by omega, by simp [monI], rfl, (bw_noExt _).symm⟩
  case round =>
    obtain ⟨k, e, hk, rfl, rfl, rfl⟩ := hrel
    by_cases hlt : (k : Int) + 1 < m
    · have b1 := HB.out k
      have b2 := HY.out ((k : Int) + 1)
      have b3 := HS.out k
      have HDk := Lib.hid (fun W => HD.out ((k : Int) + 1) W (by omega) (by omega))
      clear HD HB HS HY
      generalize monI y k = M at *
      generalize dysI y ((k : Int) + 1) = D at *
      obtain ⟨b11, b12⟩ := b1
      obtain ⟨b21, b22⟩ := b2
      go_wp2_with (go_at_call 341; refine (HDk.out _).mono ?_; rintro e w' ⟨rfl, e2, rfl⟩)
      go_roundw
      case rel => exact ⟨k + 1, _, by omega, by rw [← b3], by go_num, Classical.choose_spec (lay_fold w [_, _] _)⟩
      case measure => simp [intOf]; omega
    · have HM : Hid ((m - 1).toNat = k) := Lib.hid (by omega)
      go_wp2_with fail
      go_ret
      exact ⟨ret_int (by have := HM.out; rw [show m.toNat - 1 = k by omega]), lay_ex _ _⟩
theorem numI_bd {y m d : Int} (h : dateB y m d = true) : -800000 ≤ numI y m d ∧ numI y m d ≤ 4000000 := by
  obtain ⟨⟨a, b⟩, ⟨c, e⟩, f, g⟩ := dateB_iff.1 h
  have := befI_bd a b
  have := monI_bd y (m - 1).toNat
  have := dysI_bd y m
  unfold numI; omega
theorem cal_number (y m d : Int) (w : World) (h : dateB y m d = true) :
    Calls Tryz.prog 162 #[.agg #[.int .i64 y, .int .i64 m, .int .i64 d]] w fun e w' => e = .returned (.int .i64 (numI y m d)) ∧ ∃ d, w' = bw w d := by
  obtain ⟨⟨a, b⟩, ⟨c, e⟩, f, g⟩ := dateB_iff.1 h
  have k1 := dysI_bd y m
  have H1 := Lib.hid (fun W => cal_before y W a b)
  have H2 := Lib.hid (fun W => cal_before 2000 W (by decide) (by decide))
  rw [bef2000] at H2
  have H3 := Lib.hid (fun W => cal_dayOfYear y m d W (by omega) c e f (by omega))
  have b1 := befI_bd a b
  have b2 := monI_bd y (m - 1).toNat
  unfold numI
  generalize befI y = B at *
  generalize monI y (m - 1).toNat = M at *
  have b3 : 0 ≤ M ∧ M ≤ 400 := by omega
  obtain ⟨b11, b12⟩ := b1
  obtain ⟨b31, b32⟩ := b3
  have f2 : d ≤ 31 := by omega
  clear b2 g h k1
  refine lay_start ?_
  go_enter Tryz.func162, Tryz.ntmps162
  go_wp2_with fail
  refine region_bw (by kernel_rfl) (by kernel_rfl) ?_
  repeat (go_big_quiet_step ((first | (go_at_call 221; first | ((with_reducible refine bqs (H1.out _) ?_); exact ⟨_, rfl⟩) | ((with_reducible refine bqs (H2.out _) ?_); exact ⟨_, rfl⟩)) | (go_at_call 222; exact bq (H3.out _) (fun d => ⟨d, rfl⟩)) | (go_at_call 222; exact bq (H3.out _) (fun d => lay_join _ _ _ d)))))
  refine wpQuiet_nil ?_
  rintro w' ⟨d, rfl⟩
  rw [lay_bw]
  go_wp2_with fail
  go_ret
  exact ⟨ret_int (by omega), lay_ex _ _⟩
theorem ref09_Number (y m d : Int) (w : World) (h : dateB y m d = true) :
    Calls Tryz.prog 252 #[.agg #[.int .i64 y, .int .i64 m, .int .i64 d]] w fun e w' => e = .returned (.int .i64 (numI y m d)) ∧ ∃ d, w' = bw w d := by
  obtain ⟨⟨a, b⟩, ⟨c, e⟩, f, g⟩ := dateB_iff.1 h
  have k1 := dysI_bd y m
  have H1 := Lib.hid (fun W => ref09_before y W a b)
  have H2 := Lib.hid (fun W => ref09_before 2000 W (by decide) (by decide))
  rw [bef2000] at H2
  have H3 := Lib.hid (fun W => ref09_DayOfYear y m d W (by omega) c e f (by omega))
  have b1 := befI_bd a b
  have b2 := monI_bd y (m - 1).toNat
  unfold numI
  generalize befI y = B at *
  generalize monI y (m - 1).toNat = M at *
  have b3 : 0 ≤ M ∧ M ≤ 400 := by omega
  obtain ⟨b11, b12⟩ := b1
  obtain ⟨b31, b32⟩ := b3
  have f2 : d ≤ 31 := by omega
  clear b2 g h k1
  refine lay_start ?_
  go_enter Tryz.func252, Tryz.ntmps252
  go_wp2_with fail
  refine region_bw (by kernel_rfl) (by kernel_rfl) ?_
  repeat (go_big_quiet_step ((first | (go_at_call 306; first | ((with_reducible refine bqs (H1.out _) ?_); exact ⟨_, rfl⟩) | ((with_reducible refine bqs (H2.out _) ?_); exact ⟨_, rfl⟩)) | (go_at_call 307; exact bq (H3.out _) (fun d => ⟨d, rfl⟩)) | (go_at_call 307; exact bq (H3.out _) (fun d => lay_join _ _ _ d)))))
  refine wpQuiet_nil ?_
  rintro w' ⟨d, rfl⟩
  rw [lay_bw]
  go_wp2_with fail
  go_ret
  exact ⟨ret_int (by omega), lay_ex _ _⟩
theorem cal_right (y m : Int) (w : World) :
    Calls Tryz.prog 219 #[.int .i64 y, .int .i64 m] w fun e w' => e = .returned (.bool (decide ((1 ≤ y ∧ y ≤ 9999) ∧ 1 ≤ m ∧ m ≤ 12))) ∧ w' = w := by
  go_enter Tryz.func219, Tryz.ntmps219
  go_wp2_with fail
  all_goals go_ret
  all_goals exact ⟨ret_bool (by first | (simp [*]; done) | (rw [Bool.eq_iff_iff]; simp; omega)), rfl⟩
theorem cal_Valid (y m d : Int) (w : World) :
    Calls Tryz.prog 161 #[.agg #[.int .i64 y, .int .i64 m, .int .i64 d]] w fun e w' => e = .returned (.bool (dateB y m d)) ∧ ∃ d, w' = bw w d := by
  have HR := Lib.hid (fun W => cal_right y m W)
  by_cases h : (1 ≤ y ∧ y ≤ 9999) ∧ 1 ≤ m ∧ m ≤ 12
  · have HD := Lib.hid (fun W => cal_days y m W (by omega) h.2.1 h.2.2)
    rw [decide_eq_true h] at HR
    have e : dateB y m d = (decide (1 ≤ d) && decide (d ≤ dysI y m)) := by rw [Bool.eq_iff_iff, dateB_iff]; simp only [Bool.and_eq_true, decide_eq_true_eq]; omega
    rw [e]
    clear h e
    generalize dysI y m = D at *
    by_cases h1 : 1 ≤ d
    · have t1 : decide (1 ≤ d) = true := decide_eq_true h1
      clear h1
      rw [t1, Bool.true_and]
      refine lay_start ?_
      go_enter Tryz.func161, Tryz.ntmps161
      go_wp2_with fail
      refine region_bw (by kernel_rfl) (by kernel_rfl) ?_
      repeat (go_big_quiet_step ((first | (go_at_call 219; (with_reducible refine bqs (HR.out _) ?_); exact ⟨_, rfl⟩) | (go_at_call 220; exact bq (HD.out _) (fun d => ⟨d, rfl⟩)) | (go_at_call 220; exact bq (HD.out _) (fun d => lay_join _ _ _ d)))))
      refine wpQuiet_nil ?_
      rintro w' ⟨d, rfl⟩
      rw [lay_bw]
      go_wp2_with fail
      go_ret
      exact ⟨rfl, lay_ex _ _⟩
    · have t1 : decide (1 ≤ d) = false := decide_eq_false h1
      clear h1
      rw [t1, Bool.false_and]
      refine lay_start ?_
      go_enter Tryz.func161, Tryz.ntmps161
      go_wp2_with fail
      refine region_bw (by kernel_rfl) (by kernel_rfl) ?_
      repeat (go_big_quiet_step ((first | (go_at_call 219; (with_reducible refine bqs (HR.out _) ?_); exact ⟨_, rfl⟩))))
      refine wpQuiet_nil ?_
      rintro w' ⟨d, rfl⟩
      rw [lay_bw]
      go_wp2_with fail
      go_ret
      exact ⟨rfl, lay_ex _ _⟩
  · rw [decide_eq_false h] at HR
    have e : dateB y m d = false := by
      cases hd : dateB y m d
      · rfl
      · exact absurd ⟨(dateB_iff.1 hd).1, (dateB_iff.1 hd).2.1⟩ h
    rw [e]
    clear h e
    refine lay_start ?_
    go_enter Tryz.func161, Tryz.ntmps161
    go_wp2_with fail
    refine region_bw (by kernel_rfl) (by kernel_rfl) ?_
    repeat (go_big_quiet_step ((first | (go_at_call 219; (with_reducible refine bqs (HR.out _) ?_); exact ⟨_, rfl⟩))))
    refine wpQuiet_nil ?_
    rintro w' ⟨d, rfl⟩
    rw [lay_bw]
    go_wp2_with fail
    go_ret
    exact ⟨rfl, lay_ex _ _⟩
theorem cal_Number (y m d : Int) (w : World) :
    Calls Tryz.prog 69 #[.agg #[.int .i64 y, .int .i64 m, .int .i64 d]] w fun e w' => e = .returned (.tuple #[.int .i64 (if dateB y m d = true then numI y m d else 0), .int .i64 (if dateB y m d = true then 0 else 1)]) ∧ ∃ d, w' = bw w d := by
  have HV := Lib.hid (fun W => cal_Valid y m d W)
  cases h : dateB y m d
  · rw [h] at HV
    rw [if_neg Bool.false_ne_true, if_neg Bool.false_ne_true]
    refine lay_start ?_
    go_enter Tryz.func69, Tryz.ntmps69
    go_wp2_with (go_at_call 161; refine (HV.out _).mono ?_; rintro e w' ⟨rfl, e1, rfl⟩)
    go_ret2
    exact ⟨rfl, lay_ex _ _⟩
  · have HN := Lib.hid (fun W => cal_number y m d W h)
    rw [h] at HV
    rw [if_pos rfl, if_pos rfl]
    generalize numI y m d = N at *
    clear h
    refine lay_start ?_
    go_enter Tryz.func69, Tryz.ntmps69
    go_wp2_with (first | (go_at_call 161; refine (HV.out _).mono ?_; rintro e w' ⟨rfl, e1, rfl⟩) | (go_at_call 162; refine (HN.out _).mono ?_; rintro e w' ⟨rfl, e2, rfl⟩))
    go_ret2
    exact ⟨rfl, lay_ex _ _⟩
end Go.Proofs.YtnnmfdeeicpdlaaGreat
/- Lists of numbers in a range: package page's and the reference's; valid tracks. -/
namespace Go.Proofs.YtnnmfdeeicpdlaaGreat
set_option maxHeartbeats 2000000
open Go.RowKit

def InL (l : List Int) (lo hi : Int) (k : Nat) : Prop := ∀ i, i < k → lo ≤ l.getD i 0 ∧ l.getD i 0 ≤ hi
noncomputable def inLB (l : List Int) (lo hi : Int) : Bool := @decide (InL l lo hi l.length) (Classical.propDecidable _)
theorem inLB_iff {l : List Int} {lo hi : Int} : inLB l lo hi = true ↔ InL l lo hi l.length := by unfold inLB; simp
theorem inLB_no {l : List Int} {lo hi : Int} (h : ¬ InL l lo hi l.length) : inLB l lo hi = false := by cases e : inLB l lo hi; rfl; exact absurd (inLB_iff.1 e) h
def outB (n lo hi : Int) : Bool := decide (n < lo ∨ hi < n)
theorem outB_iff {n lo hi : Int} : outB n lo hi = true ↔ n < lo ∨ hi < n := by simp [outB]
theorem page_within1 (n lo hi : Int) (b1 b2 : Nat) (w : World) (c1 : w.cell? ⟨b1, 0, none⟩ = some (.int .i64 lo)) (c2 : w.cell? ⟨b2, 0, none⟩ = some (.int .i64 hi)) :
    Calls Tryz.prog 259 #[.int .i64 n, .pointer (some ⟨b1, 0, none⟩), .pointer (some ⟨b2, 0, none⟩)] w fun e w' => e = .returned (.bool (outB n lo hi)) ∧ w' = w := by
  go_enter Tryz.func259, Tryz.ntmps259
  go_wp2
  all_goals go_ret
  all_goals exact ⟨ret_bool (by rw [Bool.eq_iff_iff]; simp [outB, *]; try omega), rfl⟩
def idxO (l : List Int) (lo hi : Int) : Nat → Nat → Int
  | _, 0 => -1
  | k, f + 1 => if outB (l.getD k 0) lo hi = true then k else idxO l lo hi (k + 1) f
theorem idxO_spec (l : List Int) (lo hi : Int) : ∀ f k, InL l lo hi k → k + f = l.length → decide (0 ≤ idxO l lo hi k f) = !inLB l lo hi
  | 0, k, h, e => by
    have : inLB l lo hi = true := inLB_iff.2 (by rw [← e]; exact h)
    rw [this]; rfl
  | f + 1, k, h, e => by
    unfold idxO
    split
    · rename_i ho
      have : inLB l lo hi = false := inLB_no fun hh => by have := hh k (by omega); have := outB_iff.1 ho; omega
      rw [this]
      simp
    · rename_i ho
      exact idxO_spec l lo hi f (k + 1) (fun i hi' => by
        by_cases e : i = k
        · subst e; rw [outB_iff] at ho; omega
        · exact h i (by omega)) (by omega)
theorem idxO_hit {l : List Int} {lo hi : Int} {k f : Nat} (h : outB (l.getD k 0) lo hi = true) : idxO l lo hi k (f + 1) = k := by unfold idxO; rw [if_pos h]
theorem idxO_miss {l : List Int} {lo hi : Int} {k f : Nat} (h : outB (l.getD k 0) lo hi = false) : idxO l lo hi k (f + 1) = idxO l lo hi (k + 1) f := by
  show (if _ then _ else _) = _
  rw [if_neg (by rw [h]; exact Bool.false_ne_true)]
theorem idxO_go {l : List Int} {lo hi : Int} {k m : Nat} (h : outB (l.getD k 0) lo hi = false) (hk : k < m) (e : idxO l lo hi 0 m = idxO l lo hi k (m - k)) : idxO l lo hi 0 m = idxO l lo hi (k + 1) (m - (k + 1)) := by
  rw [e, show m - k = m - (k + 1) + 1 by omega, idxO_miss h]
theorem idxO_got {l : List Int} {lo hi : Int} {k m : Nat} (h : outB (l.getD k 0) lo hi = true) (hk : k < m) (e : idxO l lo hi 0 m = idxO l lo hi k (m - k)) : (k : Int) = idxO l lo hi 0 m := by
  rw [e, show m - k = m - (k + 1) + 1 by omega, idxO_hit h]
theorem slices_IndexFunc (v : Value) (l : List Int) (lo hi : Int) (b1 b2 : Nat) (w : World) (hv : Lst w v l) (c1 : w.cell? ⟨b1, 0, none⟩ = some (.int .i64 lo)) (c2 : w.cell? ⟨b2, 0, none⟩ = some (.int .i64 hi)) :
    Calls Tryz.prog 313 #[v, .func (.func 259) #[] #[.pointer (some ⟨b1, 0, none⟩), .pointer (some ⟨b2, 0, none⟩)]] w fun e w' => e = .returned (.int .i64 (idxO l lo hi 0 l.length)) ∧ w' = w := by
  obtain ⟨a, cap, rfl, g1, -, k1⟩ := hv
  have W1 := Lib.hid (fun n => page_within1 n lo hi b1 b2 w c1 c2)
  clear c1 c2
  obtain ⟨m, hm⟩ : ∃ m, m = l.length := ⟨_, rfl⟩
  rw [← hm] at g1 k1
  rw [← hm]
  by_cases hz : m = 0
  · subst hz
    clear k1 hm
    go_enter Tryz.func313, Tryz.ntmps313
    go_wp2_with fail
    refine wp_loop_rounds 1 ?_
    rw [rounds_succ]
    go_wp2
    go_ret
    exact ⟨rfl, rfl⟩
  · obtain ⟨b, o, rfl, s1, r1⟩ := k1 (by rintro rfl; simp at hm; omega)
    have HR := Lib.hid r1
    clear r1 k1 hm
    go_enter Tryz.func313, Tryz.ntmps313
    go_wp2_with fail
    go_loop [8] (fun i => ∃ k : Nat, k ≤ m ∧ i = .int .i64 k ∧ idxO l lo hi 0 m = idxO l lo hi k (m - k)) (fun i => m - (intOf i).toNat)
    case atStart => exact ⟨0, Nat.zero_le _, rfl, rfl⟩
    case round =>
      obtain ⟨k, hk, rfl, hA⟩ := hrel
      have HA := Lib.hid hA
      clear hA
      by_cases hlt : k < m
      · have e1 := HR.out k hlt
        obtain ⟨x, hx⟩ : ∃ x, x = l.getD k 0 := ⟨_, rfl⟩
        rw [← hx] at e1
        cases ho : outB x lo hi
        · have HN := Lib.hid (idxO_go (by rw [← hx]; exact ho) hlt HA.out)
          clear hx
          go_wp2_with (go_at_call 259; refine (W1.out _).mono ?_; rintro e w' ⟨rfl, rfl⟩)
          go_round
          case rel => exact ⟨k + 1, by omega, by go_num, HN.out⟩
          case measure => simp [intOf]; omega
        · have HN := Lib.hid (idxO_got (by rw [← hx]; exact ho) hlt HA.out)
          clear hx
          go_wp2_with (go_at_call 259; refine (W1.out _).mono ?_; rintro e w' ⟨rfl, rfl⟩)
          go_ret
          exact ⟨ret_int HN.out, rfl⟩
      · obtain rfl : k = m := by omega
        have HN : Hid ((-1 : Int) = idxO l lo hi 0 k) := Lib.hid (by rw [HA.out, Nat.sub_self]; rfl)
        go_wp2
        go_ret
        exact ⟨ret_int HN.out, rfl⟩
theorem slices_ContainsFunc (v : Value) (l : List Int) (lo hi : Int) (b1 b2 : Nat) (w : World) (hv : Lst w v l) (c1 : w.cell? ⟨b1, 0, none⟩ = some (.int .i64 lo)) (c2 : w.cell? ⟨b2, 0, none⟩ = some (.int .i64 hi)) :
    Calls Tryz.prog 258 #[v, .func (.func 259) #[] #[.pointer (some ⟨b1, 0, none⟩), .pointer (some ⟨b2, 0, none⟩)]] w fun e w' => e = .returned (.bool (!inLB l lo hi)) ∧ w' = w := by
  have W1 := slices_IndexFunc v l lo hi b1 b2 w hv c1 c2
  have HS := Lib.hid (idxO_spec l lo hi l.length 0 (fun i hi => absurd hi (Nat.not_lt_zero i)) (by omega))
  generalize idxO l lo hi 0 l.length = x at *
  have HW := Lib.hid W1
  clear W1 hv c1 c2
  go_enter Tryz.func258, Tryz.ntmps258
  go_wp2_with (go_at_call 313; refine HW.out.mono ?_; rintro e w' ⟨rfl, rfl⟩)
  go_ret
  exact ⟨ret_bool HS.out, rfl⟩
theorem page_within (v : Value) (l : List Int) (lo hi : Int) (w : World) (hv : Lst w v l) :
    Calls Tryz.prog 214 #[v, .int .i64 lo, .int .i64 hi] w fun e w' => e = .returned (.bool (inLB l lo hi)) ∧ ∃ d, w' = bw w d := by
  have HC := Lib.hid (fun L b1 b2 c1 c2 => slices_ContainsFunc v l lo hi b1 b2 (lay w L) (hv.lay L) c1 c2)
  clear hv
  refine lay_start ?_
  go_enter Tryz.func214, Tryz.ntmps214
  go_wp2_with (go_at_call 258; refine (HC.out _ _ _ (by go_simp) (by go_simp)).mono ?_; rintro e w' ⟨rfl, rfl⟩)
  go_ret
  exact ⟨ret_bool (by simp), lay_ex _ _⟩
structure TrkOk (t : TrkV) : Prop where
  nm : nameB t.s = true
  lg : t.g.length = 25
  ld : t.d.length = 25
  bg : inLB t.g 0 215999 = true
  bd : inLB t.d (-54000) 54000 = true
  bp : inLB [t.p] 0 200 = true
  bq : inLB [t.q] 0 620 = true
  br : inLB [t.r] 0 1000 = true
noncomputable def trkB (t : TrkV) : Bool := nameB t.s && ((t.g.length : Int) == 25) && ((t.d.length : Int) == 25) && inLB t.g 0 215999 && inLB t.d (-54000) 54000 && inLB [t.p] 0 200 && inLB [t.q] 0 620 && inLB [t.r] 0 1000
theorem trkB_iff {t : TrkV} : trkB t = true ↔ TrkOk t := by
  unfold trkB
  simp only [Bool.and_eq_true, beq_iff_eq]
  constructor
  · rintro ⟨⟨⟨⟨⟨⟨⟨h1, h2⟩, h3⟩, h4⟩, h5⟩, h6⟩, h7⟩, h8⟩; exact ⟨h1, by omega, by omega, h4, h5, h6, h7, h8⟩
  · rintro ⟨h1, h2, h3, h4, h5, h6, h7, h8⟩; exact ⟨⟨⟨⟨⟨⟨⟨h1, by omega⟩, by omega⟩, h4⟩, h5⟩, h6⟩, h7⟩, h8⟩
theorem lst_one (w : World) (L : List (Obj ⊕ Ext)) (p : Int) (t : TypeId) (hp : (Lit.int .i64 p).wf = true) : Lst (lay w (.inl (.cells #[.int .i64 p] t) :: L)) (.slice (some ⟨posn w (shp L), 0, none⟩) 1 1) [p] := by
  refine ⟨_, 1, rfl, by simp, fun i hi => ?_, fun _ => ⟨posn w (shp L), 0, rfl, ?_, fun i hi => ?_⟩⟩
  · obtain rfl : i = 0 := by have : i < 1 := hi; omega
    exact hp
  · rw [lay_size]; simp only [shp, posn, List.sum_cons]; omega
  · obtain rfl : i = 0 := by have : i < 1 := hi; omega
    have hl : (shp L).length < (Sum.inl (.cells #[.int .i64 p] t) :: L : List (Obj ⊕ Ext)).length := by rw [shp_len]; simp
    have e0 : (Sum.inl (.cells #[.int .i64 p] t) :: L : List (Obj ⊕ Ext)).length - (shp L).length = 1 := by rw [shp_len]; simp
    rw [lay_cell _ _ _ _ hl (by rw [e0]; rfl) (by rw [e0]; rfl), e0]
    rfl
set_option maxRecDepth 100000 in
theorem page_validTrack (v : Value) (t : TrkV) (w : World) (hv : Trk w v t) :
    Calls Tryz.prog 154 #[v] w fun e w' => e = .returned (.bool (trkB t)) ∧ ∃ d, w' = bw w d := by
  obtain ⟨vg, vd, rfl, hs, hg, hd, hp, hq, hr⟩ := hv
  obtain ⟨s, gs, ds, p, q, r⟩ := t
  simp only at hs hg hd hp hq hr ⊢
  have HG := Lib.hid hg
  have HD := Lib.hid hd
  obtain ⟨ag, cg, rfl, g1, -, -⟩ := hg
  obtain ⟨ad, cd, rfl, d1, -, -⟩ := hd
  have HP := Lib.hid hp
  have HQ := Lib.hid hq
  have HR := Lib.hid hr
  clear hp hq hr
  refine lay_start ?_
  go_enter Tryz.func154, Tryz.ntmps154
  go_wp2_with (first | (go_at_call 155; refine (dec_IsName _ _ hs).mono ?_; rintro e w' ⟨rfl, rfl⟩) | (go_at_call_of 214 (Value.int .i64 215999); refine (page_within _ gs _ _ _ (HG.out.lay _)).mono ?_; rintro e w' ⟨rfl, d, rfl⟩) | (go_at_call_of 214 (Value.int .i64 54000); refine (page_within _ ds _ _ _ (HD.out.lay _)).mono ?_; rintro e w' ⟨rfl, d, rfl⟩) | (go_at_call_of 214 (Value.int .i64 200); refine (page_within _ [p] _ _ _ (by exact lst_one _ _ _ _ HP.out)).mono ?_; rintro e w' ⟨rfl, d, rfl⟩) | (go_at_call_of 214 (Value.int .i64 620); refine (page_within _ [q] _ _ _ (by exact lst_one _ _ _ _ HQ.out)).mono ?_; rintro e w' ⟨rfl, d, rfl⟩) | (go_at_call_of 214 (Value.int .i64 1000); refine (page_within _ [r] _ _ _ (by exact lst_one _ _ _ _ HR.out)).mono ?_; rintro e w' ⟨rfl, d, rfl⟩))
  all_goals go_ret
  all_goals exact ⟨ret_bool (by simp [trkB, *]), lay_ex _ _⟩
end Go.Proofs.YtnnmfdeeicpdlaaGreat
/- The reference's valid tracks. -/
namespace Go.Proofs.YtnnmfdeeicpdlaaGreat
open Go.RowKit

end Go.Proofs.YtnnmfdeeicpdlaaGreat

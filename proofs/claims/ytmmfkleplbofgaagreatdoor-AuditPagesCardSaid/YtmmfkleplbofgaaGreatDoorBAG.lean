/- Contracts and plain laws, several texts in one: Trs; Frs; Aud14; Trk; Pg1 -/
import Derived.Test.YtmmfkleplbofgaaGreatDoorProg
import Derived.WalkKit
import Derived.WalkSpells
import Derived.WalkLawsBesides
import Derived.Lib.Hide
import Derived.BigQuiet
import Derived.Deep.Slices
import Derived.Deep.Fields
import Derived.ChangeSame
import Derived.WideShapes
import Derived.ChangeShapes
import Derived.Lib.SmallJoins
import Derived.Deep.RegionWith
import Derived.Test.YtmmfkleplbofgaaGreatDoorBAA
import Derived.Test.YtmmfkleplbofgaaGreatDoorBAB
import Derived.Test.YtmmfkleplbofgaaGreatDoorBAC
import Derived.Test.YtmmfkleplbofgaaGreatDoorBAF
/- A track by value, its lists read by Sl; opening one off a row. -/
namespace Go.Proofs.YtmmfkleplbofgaaGreatDoor
open Go.RowKit

structure TrsV where
  s : ByteArray
  g : List Int
  d : List Int
  p : Int
  q : Int
  r : Int
def Trs (w : World) (v : Value) (t : TrsV) : Prop :=
  ∃ vg vd, v = .agg #[.string t.s, vg, vd, .int .i64 t.p, .int .i64 t.q, .int .i64 t.r] ∧ t.s.size ≤ 9223372036854775807 ∧ Sl w vg t.g ∧ Sl w vd t.d ∧
    (Lit.int .i64 t.p).wf = true ∧ (Lit.int .i64 t.q).wf = true ∧ (Lit.int .i64 t.r).wf = true
section
variable {H : Type} {enc : TypeId × Value → H} {P : Program}
open Go.ChangeShapes Go.WideShapes Go.Deep in
theorem trs_of {w : World} {r : Reach} {b0 : Nat} {t ts ti tt te : TypeId} {f0 f1 f2 f3 f4 f5 : Field} {v : Value} {d : DataW H} {ps : List MemPlace} (hs : P.underlying t = some (.struct #[f0, f1, f2, f3, f4, f5]))
    (hone : oneCellFields P #[f0, f1, f2, f3, f4, f5] = true) (hC : P.cellsOf t = 6) (ht : f0.type = ts ∧ f1.type = tt ∧ f2.type = tt ∧ f3.type = ti ∧ f4.type = ti ∧ f5.type = ti)
    (hS : P.underlying ts = some .string) (hI : P.underlying ti = some (.int .i64)) (hT : P.underlying tt = some (.slice te)) (hE : P.underlying te = some (.int .i64)) (hc1 : P.cellsOf te = 1)
    (hv : Value.okWide P w r b0 t v) (h : DataW.Trod enc P w 0 (fun _ => true) true t v d ps) : ∃ x, Trs w v x := by
  obtain ⟨cs, rfl, hsz⟩ := okWide_struct hs hv
  obtain ⟨l⟩ := cs
  match l, hsz.trans hC with
  | [c0, c1, c2, c3, c4, c5], _ =>
    obtain ⟨fuel, hf⟩ := h
    obtain ⟨xs, n, _, hx, _, hlen, hg⟩ := DataW.trod_struct hs hf
    obtain ⟨o0, k0⟩ := hone_of hone 0 f0 rfl
    obtain ⟨o1, k1⟩ := hone_of hone 1 f1 rfl
    obtain ⟨o2, k2⟩ := hone_of hone 2 f2 rfl
    obtain ⟨o3, k3⟩ := hone_of hone 3 f3 rfl
    obtain ⟨o4, k4⟩ := hone_of hone 4 f4 rfl
    obtain ⟨o5, k5⟩ := hone_of hone 5 f5 rfl
    match xs, hlen with
    | [y0, y1, y2, y3, y4, y5], _ =>
      have e0 : DataW.trod enc P w 0 (fun _ => true) true n f0.type [c0] = some y0 := by simpa [Value.cells, o0, k0] using hg 0 f0 rfl
      have e1 : DataW.trod enc P w 0 (fun _ => true) true n f1.type [c1] = some y1 := by simpa [Value.cells, o1, k1] using hg 1 f1 rfl
      have e2 : DataW.trod enc P w 0 (fun _ => true) true n f2.type [c2] = some y2 := by simpa [Value.cells, o2, k2] using hg 2 f2 rfl
      have e3 : DataW.trod enc P w 0 (fun _ => true) true n f3.type [c3] = some y3 := by simpa [Value.cells, o3, k3] using hg 3 f3 rfl
      have e4 : DataW.trod enc P w 0 (fun _ => true) true n f4.type [c4] = some y4 := by simpa [Value.cells, o4, k4] using hg 4 f4 rfl
      have e5 : DataW.trod enc P w 0 (fun _ => true) true n f5.type [c5] = some y5 := by simpa [Value.cells, o5, k5] using hg 5 f5 rfl
      obtain ⟨t0, t1, t2, t3, t4, t5⟩ := ht
      rw [t0] at e0; rw [t1] at e1; rw [t2] at e2; rw [t3] at e3; rw [t4] at e4; rw [t5] at e5
      obtain ⟨s, q0, _, ws⟩ := DataW.trod_string hS e0
      obtain ⟨lg, hlg⟩ := sl_of hT hE hc1 e1
      obtain ⟨ld, hld⟩ := sl_of hT hE hc1 e2
      obtain ⟨x3, q3, _, w3⟩ := DataW.trod_int hI e3
      obtain ⟨x4, q4, _, w4⟩ := DataW.trod_int hI e4
      obtain ⟨x5, q5, _, w5⟩ := DataW.trod_int hI e5
      simp only [List.cons.injEq, and_true] at q0 q3 q4 q5
      subst q0 q3 q4 q5
      exact ⟨⟨s, lg, ld, x3, x4, x5⟩, c1, c2, rfl, ws, hlg, hld, w3, w4, w5⟩
end
end Go.Proofs.YtmmfkleplbofgaaGreatDoor
/- Rows that are newer than a world. No function of the program. -/
namespace Go.Proofs.YtmmfkleplbofgaaGreatDoor
open Go.RowKit

/-- A value's row is newer than this world. -/
def Frsh (w : World) (v : Value) : Prop := ∀ k, v.ownBlock = some k → w.heap.size ≤ k
theorem Frsh.nil (w : World) : Frsh w (.slice none 0 0) := fun k h => by simp [Value.ownBlock] at h
theorem Frsh.of {w W : World} {base : Nat} {v : Value} {l : List Int} (h : Ow W base v l) (hb : w.heap.size ≤ base) : Frsh w v := fun k hk => Nat.le_trans hb (h.1.lt k hk).1
end Go.Proofs.YtmmfkleplbofgaaGreatDoor
/- audit: Suspects. -/
namespace Go.Proofs.YtmmfkleplbofgaaGreatDoor
open Go.RowKit

def susE (g d : List Int) (r : Int) : Int := if gvE true g r = 0 then gvE false d r else gvE true g r
/-- The call returns two slices that read as these lists, and an error. -/
def SusR (w : World) (l1 l2 : List Int) (c : Int) (e : Ending) (w' : World) : Prop := ∃ v1 v2 d, e = .returned (.tuple #[v1, v2, .int .i64 c]) ∧ w' = bw w d ∧ Sl (bw w d) v1 l1 ∧ Sl (bw w d) v2 l2
/-- The same, of new rows. -/
def SusF (w : World) (l1 l2 : List Int) (c : Int) (e : Ending) (w' : World) : Prop := ∃ v1 v2 d, e = .returned (.tuple #[v1, v2, .int .i64 c]) ∧ w' = bw w d ∧ (Sl (bw w d) v1 l1 ∧ Sl (bw w d) v2 l2) ∧ Frsh w v1 ∧ Frsh w v2
theorem SusF.sus {w : World} {l1 l2 : List Int} {c : Int} {e : Ending} {w' : World} (h : SusF w l1 l2 c e w') : SusR w l1 l2 c e w' := by
  obtain ⟨v1, v2, d, h1, h2, ⟨h3, h4⟩, _⟩ := h
  exact ⟨v1, v2, d, h1, h2, h3, h4⟩
set_option maxHeartbeats 1000000 in
set_option maxRecDepth 100000 in
theorem aud_Suspects_ok (s : ByteArray) (vg vd : Value) (g d : List Int) (p q r : Int) (w : World) (hg : Sl w vg g) (hd : Sl w vd d) (h1 : gvE true g r = 0) (h2 : gvE false d r = 0) :
    Calls Tryz.prog 17 #[.agg #[.string s, vg, vd, .int .i64 p, .int .i64 q, .int .i64 r]] w (SusF w (susL true g r) (susL false d r) 0) := by
  obtain ⟨G1, b0, b1⟩ := gvE_0.1 h1
  obtain ⟨G2, _, _⟩ := gvE_0.1 h2
  have HG1 := Lib.hid (fun W (h : Sl W vg g) => aud_given vg g true r W h)
  have HG2 := Lib.hid (fun W (h : Sl W vd d) => aud_given vd d false r W h)
  rw [h1] at HG1
  rw [h2] at HG2
  have HS1 := Lib.hid (fun W (h : Sl W vg g) => aud_suspects vg g true r W h G1 b0 b1)
  have HS2 := Lib.hid (fun W (h : Sl W vd d) => aud_suspects vd d false r W h G2 b0 b1)
  have HL1 := Lib.hid hg
  have HL2 := Lib.hid hd
  obtain ⟨a1, c1, hv1, -⟩ := hg
  obtain ⟨a2, c2, hv2, -⟩ := hd
  subst hv1 hv2
  clear h1 h2 G1 G2
  generalize susL true g r = R1 at *
  generalize susL false d r = R2 at *
  generalize g.length = n1 at *
  generalize d.length = n2 at *
  refine lay_start ?_
  go_enter Tryz.func17, Tryz.ntmps17
  go_wp2_with fail
  refine (HG1.out _ (HL1.out.lay _)).mono ?_
  rintro e w' ⟨rfl, d1, rfl⟩
  rw [lay_bw]
  go_wp2_with fail
  refine (HG2.out _ (HL2.out.lay _)).mono ?_
  rintro e w' ⟨rfl, d2, rfl⟩
  rw [lay_bw]
  go_wp2_with fail
  refine region_mixP [(0, 0), (1, 0), (2, 0), (4, 0), (5, 0), (6, 0), (3, 1), (7, 1)] (by kernel_rfl) (by kernel_rfl) (by kernel_rfl) (by kernel_rfl) (by decide) (by kernel_rfl) ?_
  simp only [List.drop_succ_cons, List.drop_zero, List.length_cons, List.length_nil, Nat.reduceAdd]
  iterate 6 (refine wpMP_quiet rfl (fun K hK => ?_); go_simp; refine hK _ ?_; clear hK K)
  refine wpMP_special rfl (fun K hK e1 => ?_)
  go_simp
  refine (HS1.out _ (HL1.out.lay _)).mono ?_
  rintro e w' ⟨v1, da, rfl, rfl, ho1⟩
  have H1 : Hid (Sl (lay w [.inr da, .inr e1, .inl (.cells #[.slice a2 n2 c2, .bool false] 59 (0, 0)), .inr d2, .inl (.cells #[.slice a1 n1 c1, .bool true] 59 (0, 0)), .inr d1, .inl (.cells #[.string s, .slice a1 n1 c1, .slice a2 n2 c2, .int .i64 p, .int .i64 q, .int .i64 r] 31 (0, 0))]) v1 R1) := Lib.hid ho1.sl
  have F1 : Hid (Frsh w v1) := Lib.hid (Frsh.of ho1 (lay_extends w _).size)
  clear ho1
  refine ⟨v1, rfl, ?_⟩
  go_simp
  refine hK _ _ (lay_in w [_, _] _) ?_
  clear hK K
  refine wpMP_special rfl (fun K hK e2 => ?_)
  go_simp
  refine (HS2.out _ (HL2.out.lay _)).mono ?_
  rintro e w' ⟨v2, db, rfl, rfl, ho2⟩
  have H2 : Hid (Sl (lay w [.inr db, .inr e2, .inr da, .inr e1, .inl (.cells #[.slice a2 n2 c2, .bool false] 59 (0, 0)), .inr d2, .inl (.cells #[.slice a1 n1 c1, .bool true] 59 (0, 0)), .inr d1, .inl (.cells #[.string s, .slice a1 n1 c1, .slice a2 n2 c2, .int .i64 p, .int .i64 q, .int .i64 r] 31 (0, 0))]) v2 R2) := Lib.hid ho2.sl
  have F2 : Hid (Frsh w v2) := Lib.hid (Frsh.of ho2 (lay_extends w _).size)
  clear ho2
  refine ⟨v2, rfl, ?_⟩
  go_simp
  refine hK _ _ (lay_in w [_, _, _, _] _) ?_
  clear hK K
  refine wpMP_nil (fun e3 => ?_)
  rw [lay_bw]
  go_wp2
  obtain ⟨z, hz⟩ := lay_ex w [.inr e3, .inr db, .inr e2, .inr da, .inr e1, .inl (.cells #[.slice a2 n2 c2, .bool false] 59 (0, 0)), .inr d2, .inl (.cells #[.slice a1 n1 c1, .bool true] 59 (0, 0)), .inr d1, .inl (.cells #[.string s, .slice a1 n1 c1, .slice a2 n2 c2, .int .i64 p, .int .i64 q, .int .i64 r] 31 (0, 0))]
  have h1 := sl_on (A := [.inr e3, .inr db, .inr e2]) H1.out
  have h2 := sl_on (A := [.inr e3]) H2.out
  exact bodyPost_ret (v := .tuple #[v1, v2, .int .i64 0]) (by simp [results, Tryz.results17, go_sem]) rfl ⟨v1, v2, z, rfl, hz, ⟨hz ▸ h1, hz ▸ h2⟩, F1.out, F2.out⟩
set_option maxHeartbeats 1000000 in
theorem aud_Suspects_no (s : ByteArray) (vg vd : Value) (g d : List Int) (p q r : Int) (w : World) (hg : Sl w vg g) (hd : Sl w vd d) (h : susE g d r ≠ 0) :
    Calls Tryz.prog 17 #[.agg #[.string s, vg, vd, .int .i64 p, .int .i64 q, .int .i64 r]] w (SusF w [] [] (susE g d r)) := by
  have HG1 := Lib.hid (fun W (h : Sl W vg g) => aud_given vg g true r W h)
  have HG2 := Lib.hid (fun W (h : Sl W vd d) => aud_given vd d false r W h)
  have HL1 := Lib.hid hg
  have HL2 := Lib.hid hd
  obtain ⟨a1, c1, hv1, -⟩ := hg
  obtain ⟨a2, c2, hv2, -⟩ := hd
  subst hv1 hv2
  have hE : susE g d r = if gvE true g r = 0 then gvE false d r else gvE true g r := rfl
  rw [hE] at h ⊢
  by_cases h1 : gvE true g r = 0
  · rw [if_pos h1] at h ⊢
    rw [h1] at HG1
    have t1 : (gvE false d r == 0) = false := beq_eq_false_iff_ne.2 h
    clear hE h h1
    generalize gvE false d r = E at *
    generalize g.length = n1 at *
    generalize d.length = n2 at *
    refine lay_start ?_
    go_enter Tryz.func17, Tryz.ntmps17
    go_wp2_with fail
    refine (HG1.out _ (HL1.out.lay _)).mono ?_
    rintro e w' ⟨rfl, d1, rfl⟩
    rw [lay_bw]
    go_wp2_with fail
    refine (HG2.out _ (HL2.out.lay _)).mono ?_
    rintro e w' ⟨rfl, d2, rfl⟩
    rw [lay_bw]
    go_wp2
    obtain ⟨z, hz⟩ := lay_ex w [.inl (.cells #[.slice a2 n2 c2, .bool false] 59 (0, 0)), .inr d2, .inl (.cells #[.slice a1 n1 c1, .bool true] 59 (0, 0)), .inr d1, .inl (.cells #[.string s, .slice a1 n1 c1, .slice a2 n2 c2, .int .i64 p, .int .i64 q, .int .i64 r] 31 (0, 0))]
    exact bodyPost_ret (v := .tuple #[.slice none 0 0, .slice none 0 0, .int .i64 E]) (by simp [results, Tryz.results17, go_sem]) rfl ⟨_, _, z, rfl, hz, ⟨Sl.nil _, Sl.nil _⟩, Frsh.nil _, Frsh.nil _⟩
  · rw [if_neg h1] at h ⊢
    have t1 : (gvE true g r == 0) = false := beq_eq_false_iff_ne.2 h
    clear hE h h1 HG2
    generalize gvE true g r = E at *
    generalize g.length = n1 at *
    generalize d.length = n2 at *
    refine lay_start ?_
    go_enter Tryz.func17, Tryz.ntmps17
    go_wp2_with fail
    refine (HG1.out _ (HL1.out.lay _)).mono ?_
    rintro e w' ⟨rfl, d1, rfl⟩
    rw [lay_bw]
    go_wp2
    obtain ⟨z, hz⟩ := lay_ex w [.inl (.cells #[.slice a1 n1 c1, .bool true] 59 (0, 0)), .inr d1, .inl (.cells #[.string s, .slice a1 n1 c1, .slice a2 n2 c2, .int .i64 p, .int .i64 q, .int .i64 r] 31 (0, 0))]
    exact bodyPost_ret (v := .tuple #[.slice none 0 0, .slice none 0 0, .int .i64 E]) (by simp [results, Tryz.results17, go_sem]) rfl ⟨_, _, z, rfl, hz, ⟨Sl.nil _, Sl.nil _⟩, Frsh.nil _, Frsh.nil _⟩
def susG (g d : List Int) (r : Int) : List Int := if susE g d r = 0 then susL true g r else []
def susD (g d : List Int) (r : Int) : List Int := if susE g d r = 0 then susL false d r else []
theorem aud_SuspectsF (s : ByteArray) (vg vd : Value) (g d : List Int) (p q r : Int) (w : World) (hg : Sl w vg g) (hd : Sl w vd d) :
    Calls Tryz.prog 17 #[.agg #[.string s, vg, vd, .int .i64 p, .int .i64 q, .int .i64 r]] w (SusF w (susG g d r) (susD g d r) (susE g d r)) := by
  unfold susG susD
  by_cases h : susE g d r = 0
  · rw [if_pos h, if_pos h, h]
    have h1 : gvE true g r = 0 := by unfold susE at h; split at h <;> assumption
    have h2 : gvE false d r = 0 := by unfold susE at h; rw [if_pos h1] at h; exact h
    exact aud_Suspects_ok s vg vd g d p q r w hg hd h1 h2
  · rw [if_neg h, if_neg h]
    exact aud_Suspects_no s vg vd g d p q r w hg hd h
theorem aud_Suspects (s : ByteArray) (vg vd : Value) (g d : List Int) (p q r : Int) (w : World) (hg : Sl w vg g) (hd : Sl w vd d) :
    Calls Tryz.prog 17 #[.agg #[.string s, vg, vd, .int .i64 p, .int .i64 q, .int .i64 r]] w (SusR w (susG g d r) (susD g d r) (susE g d r)) := (aud_SuspectsF s vg vd g d p q r w hg hd).mono fun _ _ h => h.sus
end Go.Proofs.YtmmfkleplbofgaaGreatDoor
/- Lists of ints and tracks that came in: how they read; opening them off a row. -/
namespace Go.Proofs.YtmmfkleplbofgaaGreatDoor
open Go.RowKit

/-- The value is a slice that reads, in this world, as these ints. -/
def Lst (w : World) (v : Value) (l : List Int) : Prop :=
  ∃ a cap, v = .slice a l.length cap ∧ l.length ≤ 9223372036854775807 ∧ (∀ i, i < l.length → (Lit.int .i64 (l.getD i 0)).wf = true) ∧
    (l ≠ [] → ∃ b o, a = some ⟨b, o, none⟩ ∧ b < w.heap.size ∧ ∀ i, i < l.length → w.cell? ⟨b, o + i, none⟩ = some (.int .i64 (l.getD i 0)))
theorem Lst.bw {w : World} {v : Value} {l : List Int} (h : Lst w v l) (d : Ext) : Lst (bw w d) v l := by
  obtain ⟨a, cap, h1, h2, h0, h3⟩ := h
  refine ⟨a, cap, h1, h2, h0, fun hl => ?_⟩
  obtain ⟨b, o, h4, h5, h6⟩ := h3 hl
  exact ⟨b, o, h4, Nat.lt_of_lt_of_le h5 (bw_le w d), fun i hi => (bw_cell w d b (o + i) h5).trans (h6 i hi)⟩
theorem Lst.lay {w : World} {v : Value} {l : List Int} (h : Lst w v l) (L : List (Obj ⊕ Ext)) : Lst (lay w L) v l := by
  obtain ⟨d, hd⟩ := lay_ex w L
  rw [hd]; exact h.bw d
theorem lst_of_fn {w : World} {a : Addr} {n cap : Nat} (hn : n ≤ 9223372036854775807) (hsp : a.spot = none) (hb : n ≠ 0 → a.block < w.heap.size) (f : Nat → Int)
    (h : ∀ i, i < n → w.cell? ⟨a.block, a.off + i, none⟩ = some (.int .i64 (f i)) ∧ (Lit.int .i64 (f i)).wf = true) :
    Lst w (.slice (some a) n cap) ((List.range n).map f) := by
  have e : ∀ i, i < n → ((List.range n).map f).getD i 0 = f i := fun i hi => by simp [List.getD, hi]
  refine ⟨some a, cap, by simp, by simpa using hn, fun i hi => ?_, fun hl => ⟨a.block, a.off, by cases a; simp_all, hb (by rintro rfl; exact hl rfl), fun i hi => ?_⟩⟩
  · have hi' : i < n := by simpa using hi
    rw [e i hi']; exact (h i hi').2
  · have hi' : i < n := by simpa using hi
    rw [e i hi']; exact (h i hi').1
theorem add_block1 (a : Addr) (n : Nat) : (a.add n).block = a.block := by
  unfold Addr.add; split <;> rfl
theorem add_none1 {a : Addr} (h : a.spot = none) (n : Nat) : a.add n = ⟨a.block, a.off + n, none⟩ := by
  unfold Addr.add
  split
  · rename_i h0
    have : n = 0 := by simpa using h0
    subst this
    cases a; simp_all
  · rfl
section
variable {H : Type} {enc : TypeId × Value → H} {P : Program}
theorem lst_of {w : World} {t e : TypeId} {fuel : Nat} {v : Value} {x : DataW H × List MemPlace} (ht : P.underlying t = some (.slice e)) (he : P.underlying e = some (.int .i64)) (hC : P.cellsOf e = 1)
    (hf : DataW.trod enc P w 0 (fun _ => true) true fuel t [v] = some x) : ∃ l, Lst w v l := by
  rcases Go.Deep.open_slice ht hf with ⟨hcs, _⟩ | ⟨a', len', cap', m, n, D, Pl, hcs, hb, hl, hm, hmm, hx, hel⟩
  · obtain rfl : v = .slice none 0 0 := by simpa using hcs
    exact ⟨[], none, 0, rfl, by simp, fun i hi => absurd hi (Nat.not_lt_zero i), fun h => absurd rfl h⟩
  · obtain rfl : v = .slice (some a') len' cap' := by simpa using hcs
    simp only [if_true] at hmm
    subst hmm
    obtain ⟨f, hF⟩ := Go.Deep.choose_lt (α := Int) (p := fun i y => w.cell? (a'.add i) = some (.int .i64 y) ∧ (Lit.int .i64 y).wf = true) (n := m) (fun i him => by
      obtain ⟨cs', hc', ht'⟩ := hel i him
      rw [hC] at hc'
      obtain ⟨_, hcl, hat⟩ := World.cells?_some hc'
      obtain ⟨y, rfl, _, hw⟩ := DataW.trod_int he ht'
      exact ⟨y, by simpa [Go.Deep.add_add] using hat 0 (by simp), hw⟩)
    have hspot : 0 < len' → a'.spot = none := fun hp => by
      have := (hF 0 (by omega)).1
      unfold World.cell? at this
      cases hs : a'.spot
      · rfl
      · simp [Addr.add, hs] at this
        try (split at this <;> simp at this)
    have hbl : 0 < len' → a'.block < w.heap.size := fun hp => by
      obtain ⟨cs', hc', _⟩ := hel 0 (by omega)
      rw [hC] at hc'
      have := World.cells?_block hc' (by omega)
      simpa [add_block1] using this
    by_cases hz : len' = 0
    · subst hz
      exact ⟨[], some a', _, rfl, by simp, fun i hi => absurd hi (Nat.not_lt_zero i), fun hne => absurd rfl hne⟩
    · have hM : maxLen = 9223372036854775807 := by decide
      refine ⟨_, lst_of_fn (by omega) (hspot (by omega)) (fun _ => hbl (by omega)) f fun i hi' => ?_⟩
      have g := hF i (by omega)
      rw [add_none1 (hspot (by omega))] at g
      exact g

/-- A struct of a string, two slices and three ints, by value. -/
structure TrkV where
  s : ByteArray
  g : List Int
  d : List Int
  p : Int
  q : Int
  r : Int
def Trk (w : World) (v : Value) (t : TrkV) : Prop :=
  ∃ vg vd, v = .agg #[.string t.s, vg, vd, .int .i64 t.p, .int .i64 t.q, .int .i64 t.r] ∧ t.s.size ≤ 9223372036854775807 ∧ Lst w vg t.g ∧ Lst w vd t.d ∧
    (Lit.int .i64 t.p).wf = true ∧ (Lit.int .i64 t.q).wf = true ∧ (Lit.int .i64 t.r).wf = true
theorem Trk.lay {w : World} {v : Value} {t : TrkV} (h : Trk w v t) (L : List (Obj ⊕ Ext)) : Trk (lay w L) v t := by
  obtain ⟨vg, vd, h1, h0, h2, h3, h4⟩ := h
  exact ⟨vg, vd, h1, h0, h2.lay L, h3.lay L, h4⟩
open Go.ChangeShapes Go.WideShapes Go.Deep in
theorem trk_of {w : World} {r : Reach} {b0 : Nat} {t ts ti tt te : TypeId} {f0 f1 f2 f3 f4 f5 : Field} {v : Value} {d : DataW H} {ps : List MemPlace} (hs : P.underlying t = some (.struct #[f0, f1, f2, f3, f4, f5]))
    (hone : oneCellFields P #[f0, f1, f2, f3, f4, f5] = true) (hC : P.cellsOf t = 6) (ht : f0.type = ts ∧ f1.type = tt ∧ f2.type = tt ∧ f3.type = ti ∧ f4.type = ti ∧ f5.type = ti)
    (hS : P.underlying ts = some .string) (hI : P.underlying ti = some (.int .i64)) (hT : P.underlying tt = some (.slice te)) (hE : P.underlying te = some (.int .i64)) (hc1 : P.cellsOf te = 1)
    (hv : Value.okWide P w r b0 t v) (h : DataW.Trod enc P w 0 (fun _ => true) true t v d ps) : ∃ x, Trk w v x := by
  obtain ⟨cs, rfl, hsz⟩ := okWide_struct hs hv
  obtain ⟨l⟩ := cs
  match l, hsz.trans hC with
  | [c0, c1, c2, c3, c4, c5], _ =>
    obtain ⟨fuel, hf⟩ := h
    obtain ⟨xs, n, _, hx, _, hlen, hg⟩ := DataW.trod_struct hs hf
    obtain ⟨o0, k0⟩ := hone_of hone 0 f0 rfl
    obtain ⟨o1, k1⟩ := hone_of hone 1 f1 rfl
    obtain ⟨o2, k2⟩ := hone_of hone 2 f2 rfl
    obtain ⟨o3, k3⟩ := hone_of hone 3 f3 rfl
    obtain ⟨o4, k4⟩ := hone_of hone 4 f4 rfl
    obtain ⟨o5, k5⟩ := hone_of hone 5 f5 rfl
    match xs, hlen with
    | [y0, y1, y2, y3, y4, y5], _ =>
      have e0 : DataW.trod enc P w 0 (fun _ => true) true n f0.type [c0] = some y0 := by simpa [Value.cells, o0, k0] using hg 0 f0 rfl
      have e1 : DataW.trod enc P w 0 (fun _ => true) true n f1.type [c1] = some y1 := by simpa [Value.cells, o1, k1] using hg 1 f1 rfl
      have e2 : DataW.trod enc P w 0 (fun _ => true) true n f2.type [c2] = some y2 := by simpa [Value.cells, o2, k2] using hg 2 f2 rfl
      have e3 : DataW.trod enc P w 0 (fun _ => true) true n f3.type [c3] = some y3 := by simpa [Value.cells, o3, k3] using hg 3 f3 rfl
      have e4 : DataW.trod enc P w 0 (fun _ => true) true n f4.type [c4] = some y4 := by simpa [Value.cells, o4, k4] using hg 4 f4 rfl
      have e5 : DataW.trod enc P w 0 (fun _ => true) true n f5.type [c5] = some y5 := by simpa [Value.cells, o5, k5] using hg 5 f5 rfl
      obtain ⟨t0, t1, t2, t3, t4, t5⟩ := ht
      rw [t0] at e0; rw [t1] at e1; rw [t2] at e2; rw [t3] at e3; rw [t4] at e4; rw [t5] at e5
      obtain ⟨s, q0, _, ws⟩ := DataW.trod_string hS e0
      obtain ⟨lg, hlg⟩ := lst_of hT hE hc1 e1
      obtain ⟨ld, hld⟩ := lst_of hT hE hc1 e2
      obtain ⟨x3, q3, _, w3⟩ := DataW.trod_int hI e3
      obtain ⟨x4, q4, _, w4⟩ := DataW.trod_int hI e4
      obtain ⟨x5, q5, _, w5⟩ := DataW.trod_int hI e5
      simp only [List.cons.injEq, and_true] at q0 q3 q4 q5
      subst q0 q3 q4 q5
      exact ⟨⟨s, lg, ld, x3, x4, x5⟩, c1, c2, rfl, ws, hlg, hld, w3, w4, w5⟩
end
end Go.Proofs.YtmmfkleplbofgaaGreatDoor
/- Names: package decimal's and the reference's. -/
namespace Go.Proofs.YtmmfkleplbofgaaGreatDoor
open Go.RowKit

def letB (c : Int) : Bool := decide ((97 ≤ c ∧ c ≤ 122) ∨ (65 ≤ c ∧ c ≤ 90))
def digB (c : Int) : Bool := decide (48 ≤ c ∧ c ≤ 57)
def wrdB (c : Int) : Bool := letB c || digB c || c == 95
theorem letB_iff {c : Int} : letB c = true ↔ (97 ≤ c ∧ c ≤ 122) ∨ (65 ≤ c ∧ c ≤ 90) := by simp [letB]
theorem digB_iff {c : Int} : digB c = true ↔ 48 ≤ c ∧ c ≤ 57 := by simp [digB]
set_option maxHeartbeats 400000 in
theorem dec_letter (c : Int) (w : World) (h0 : 0 ≤ c) (h1 : c ≤ 255) :
    Calls Tryz.prog 77 #[.int .u8 c] w fun e w' => e = .returned (.bool (letB c)) ∧ w' = w := by
  go_enter Tryz.func77, Tryz.ntmps77
  go_wp2
  all_goals go_ret
  all_goals exact ⟨ret_bool (by rw [Bool.eq_iff_iff, letB_iff]; simp; omega), rfl⟩
set_option maxHeartbeats 400000 in
theorem dec_digit (c : Int) (w : World) (h0 : 0 ≤ c) (h1 : c ≤ 255) :
    Calls Tryz.prog 94 #[.int .u8 c] w fun e w' => e = .returned (.bool (digB c)) ∧ w' = w := by
  go_enter Tryz.func94, Tryz.ntmps94
  go_wp2
  all_goals go_ret
  all_goals exact ⟨ret_bool (by rw [Bool.eq_iff_iff, digB_iff]; simp; omega), rfl⟩
set_option maxHeartbeats 400000 in
theorem dec_word (c : Int) (w : World) (h0 : 0 ≤ c) (h1 : c ≤ 255) :
    Calls Tryz.prog 76 #[.int .u8 c] w fun e w' => e = .returned (.bool (wrdB c)) ∧ w' = w := by
  go_enter Tryz.func76, Tryz.ntmps76
  go_wp2_with (first | (go_at_call 77; refine (dec_letter _ _ h0 h1).mono ?_; rintro e w' ⟨rfl, rfl⟩) | (go_at_call 94; refine (dec_digit _ _ h0 h1).mono ?_; rintro e w' ⟨rfl, rfl⟩))
  all_goals go_ret
  all_goals exact ⟨ret_bool (by simp [wrdB, *]), rfl⟩
set_option maxHeartbeats 400000 in
theorem ref01_letter (c : Int) (w : World) (h0 : 0 ≤ c) (h1 : c ≤ 255) :
    Calls Tryz.prog 60 #[.int .u8 c] w fun e w' => e = .returned (.bool (letB c)) ∧ w' = w := by
  go_enter Tryz.func60, Tryz.ntmps60
  go_wp2
  all_goals go_ret
  all_goals exact ⟨ret_bool (by rw [Bool.eq_iff_iff, letB_iff]; simp; omega), rfl⟩
set_option maxHeartbeats 400000 in
theorem ref01_digit (c : Int) (w : World) (h0 : 0 ≤ c) (h1 : c ≤ 255) :
    Calls Tryz.prog 61 #[.int .u8 c] w fun e w' => e = .returned (.bool (digB c)) ∧ w' = w := by
  go_enter Tryz.func61, Tryz.ntmps61
  go_wp2
  all_goals go_ret
  all_goals exact ⟨ret_bool (by rw [Bool.eq_iff_iff, digB_iff]; simp; omega), rfl⟩
/-- The byte at an index. -/
def bt (s : ByteArray) (i : Nat) : Int := ((s.data.toList.getD i 0).toNat : Int)
theorem bt_get {s : ByteArray} {i : Nat} (h : i < s.size) : ((s[i]'h).toNat : Int) = bt s i := by
  unfold bt
  rw [List.getD_eq_getElem?_getD, List.getElem?_eq_getElem (by simpa using h)]
  rfl
theorem bt_bd (s : ByteArray) (i : Nat) : 0 ≤ bt s i ∧ bt s i ≤ 255 := by
  unfold bt
  have := (s.data.toList.getD i 0).toNat_lt
  omega
def AllW (s : ByteArray) (k : Nat) : Prop := ∀ i, i < k → wrdB (bt s i) = true
structure Name (s : ByteArray) : Prop where
  len : s.size ≤ 20
  pos : 0 < s.size
  all : AllW s s.size
  hd : letB (bt s 0) = true
noncomputable def nameB (s : ByteArray) : Bool := @decide (Name s) (Classical.propDecidable _)
theorem nameB_iff {s : ByteArray} : nameB s = true ↔ Name s := by unfold nameB; simp
theorem nameB_no {s : ByteArray} (h : ¬ Name s) : false = nameB s := by cases e : nameB s; rfl; exact absurd (nameB_iff.1 e) h
theorem nameB_yes {s : ByteArray} (h : Name s) : true = nameB s := (nameB_iff.2 h).symm
noncomputable def allwB (s : ByteArray) : Bool := @decide (0 < s.size ∧ AllW s s.size) (Classical.propDecidable _)
theorem allwB_iff {s : ByteArray} : allwB s = true ↔ 0 < s.size ∧ AllW s s.size := by unfold allwB; simp
theorem allwB_no {s : ByteArray} (h : ¬ (0 < s.size ∧ AllW s s.size)) : false = allwB s := by cases e : allwB s; rfl; exact absurd (allwB_iff.1 e) h
theorem str_all {s : ByteArray} (h : AllW s s.size) : (!s.toList.isEmpty) = allwB s := by
  rw [Bool.eq_iff_iff, allwB_iff, ByteArray.toList_eq]
  have e : s.size = s.data.toList.length := by simp
  rw [Bool.not_eq_true', List.isEmpty_eq_false_iff]
  constructor
  · intro h1; exact ⟨by rw [e]; exact List.length_pos_iff.2 h1, h⟩
  · intro h1 h2; rw [h2, List.length_nil] at e; have := h1.1; omega
theorem wrd_no {c : Int} (h : wrdB c = false) : letB c = false ∧ digB c = false ∧ (c == 95) = false := by
  unfold wrdB at h; simp only [Bool.or_eq_false_iff] at h; exact ⟨h.1.1, h.1.2, h.2⟩
theorem wrd_yes {c : Int} (h : wrdB c = true) : letB c = true ∨ (letB c = false ∧ digB c = true) ∨ (letB c = false ∧ digB c = false ∧ (c == 95) = true) := by
  unfold wrdB at h
  cases h1 : letB c
  · cases h2 : digB c
    · rw [h1, h2] at h; right; right; exact ⟨rfl, rfl, by simpa using h⟩
    · right; left; exact ⟨rfl, rfl⟩
  · left; rfl
set_option maxHeartbeats 1000000 in
theorem dec_all (s : ByteArray) (w : World) (hs : s.size ≤ 9223372036854775807) :
    Calls Tryz.prog 75 #[.string s, .func (.func 76) #[] #[]] w fun e w' => e = .returned (.bool (allwB s)) ∧ w' = w := by
  go_enter Tryz.func75, Tryz.ntmps75
  go_wp2_with fail
  go_loop [8] (fun i => ∃ k : Nat, k ≤ s.size ∧ i = .int .i64 k ∧ AllW s k) (fun i => s.size - (intOf i).toNat)
  case atStart => exact ⟨0, Nat.zero_le _, rfl, fun i hi => absurd hi (Nat.not_lt_zero i)⟩
  case round =>
    obtain ⟨k, hk, rfl, hA⟩ := hrel
    have HA := Lib.hid hA
    clear hA
    by_cases hlt : k < s.size
    · have e := bt_get hlt
      have b := bt_bd s k
      cases hw : wrdB (bt s k)
      · have HN : Hid (false = allwB s) := Lib.hid (allwB_no fun h => by have := h.2 k hlt; rw [hw] at this; cases this)
        go_wp2_with (go_at_call 76; refine (dec_word _ _ (by omega) (by omega)).mono ?_; rintro e w' ⟨rfl, rfl⟩)
        go_ret
        exact ⟨ret_bool HN.out, rfl⟩
      · have HN := Lib.hid hw
        go_wp2_with (go_at_call 76; refine (dec_word _ _ (by omega) (by omega)).mono ?_; rintro e w' ⟨rfl, rfl⟩)
        go_round
        case rel => exact ⟨k + 1, by omega, by go_num, fun i hi => by
          by_cases e : i = k
          · subst e; exact HN.out
          · exact HA.out i (by omega)⟩
        case measure => simp [intOf]; omega
    · obtain rfl : k = s.size := by omega
      have HN : Hid ((!s.toList.isEmpty) = allwB s) := Lib.hid (str_all HA.out)
      go_wp2
      go_ret
      exact ⟨ret_bool HN.out, rfl⟩
set_option maxHeartbeats 1000000 in
theorem dec_IsName (s : ByteArray) (w : World) (hs : s.size ≤ 9223372036854775807) :
    Calls Tryz.prog 52 #[.string s] w fun e w' => e = .returned (.bool (nameB s)) ∧ w' = w := by
  by_cases h20 : s.size ≤ 20
  · cases ha : allwB s
    · have HN : Hid (false = nameB s) := Lib.hid (nameB_no fun h => by have := allwB_iff.2 ⟨h.pos, h.all⟩; rw [ha] at this; cases this)
      go_enter Tryz.func52, Tryz.ntmps52
      go_wp2_with (go_at_call 75; refine (dec_all s _ hs).mono ?_; rintro e w' ⟨rfl, rfl⟩)
      go_ret
      exact ⟨ret_bool HN.out, rfl⟩
    · obtain ⟨p, q⟩ := allwB_iff.1 ha
      have e := bt_get p
      have b := bt_bd s 0
      obtain ⟨b0, b1⟩ := b
      cases hl : letB (bt s 0)
      · have HN : Hid (false = nameB s) := Lib.hid (nameB_no fun h => by have := h.hd; rw [hl] at this; cases this)
        clear q
        go_enter Tryz.func52, Tryz.ntmps52
        go_wp2_with (first | (go_at_call 75; refine (dec_all s _ hs).mono ?_; rintro e w' ⟨rfl, rfl⟩) | (go_at_call 77; refine (dec_letter _ _ (by omega) (by omega)).mono ?_; rintro e w' ⟨rfl, rfl⟩))
        go_ret
        exact ⟨ret_bool HN.out, rfl⟩
      · have HN : Hid (true = nameB s) := Lib.hid (nameB_yes ⟨h20, p, q, hl⟩)
        clear q
        go_enter Tryz.func52, Tryz.ntmps52
        go_wp2_with (first | (go_at_call 75; refine (dec_all s _ hs).mono ?_; rintro e w' ⟨rfl, rfl⟩) | (go_at_call 77; refine (dec_letter _ _ (by omega) (by omega)).mono ?_; rintro e w' ⟨rfl, rfl⟩))
        go_ret
        exact ⟨ret_bool HN.out, rfl⟩
  · have HN : Hid (false = nameB s) := Lib.hid (nameB_no fun h => h20 h.len)
    go_enter Tryz.func52, Tryz.ntmps52
    go_wp2
    go_ret
    exact ⟨ret_bool HN.out, rfl⟩
set_option maxHeartbeats 2000000 in
theorem ref01_IsName (s : ByteArray) (w : World) (hs : s.size ≤ 9223372036854775807) :
    Calls Tryz.prog 41 #[.string s] w fun e w' => e = .returned (.bool (nameB s)) ∧ w' = w := by
  by_cases h20 : 0 < s.size ∧ s.size ≤ 20
  · obtain ⟨p, h20⟩ := h20
    have hne : ¬ s = ByteArray.empty := by rintro rfl; simp at p
    have hz : ((s.size : Int) == 0) = false := beq_eq_false_iff_ne.2 (by omega)
    have hd : decide (20 < (s.size : Int)) = false := decide_eq_false (by omega)
    have e := bt_get p
    have b := bt_bd s 0
    obtain ⟨b0, b1⟩ := b
    cases hl : letB (bt s 0)
    · have HN : Hid (false = nameB s) := Lib.hid (nameB_no fun h => by have := h.hd; rw [hl] at this; cases this)
      go_enter Tryz.func41, Tryz.ntmps41
      go_wp2_with (go_at_call 60; refine (ref01_letter _ _ (by omega) (by omega)).mono ?_; rintro e w' ⟨rfl, rfl⟩)
      go_ret
      exact ⟨ret_bool HN.out, rfl⟩
    · have HL := Lib.hid hl
      go_enter Tryz.func41, Tryz.ntmps41
      go_wp2_with (go_at_call 60; refine (ref01_letter _ _ (by omega) (by omega)).mono ?_; rintro e w' ⟨rfl, rfl⟩)
      clear hl e hz hd hne
      go_loop [3] (fun i => ∃ k : Nat, k ≤ s.size ∧ i = .int .i64 k ∧ AllW s k) (fun i => s.size - (intOf i).toNat)
      case atStart => exact ⟨0, Nat.zero_le _, rfl, fun i hi => absurd hi (Nat.not_lt_zero i)⟩
      case round =>
        obtain ⟨k, hk, rfl, hA⟩ := hrel
        have HA := Lib.hid hA
        clear hA
        by_cases hlt : k < s.size
        · have e := bt_get hlt
          have b := bt_bd s k
          obtain ⟨c0, c1⟩ := b
          cases hw : wrdB (bt s k)
          · have HN : Hid (false = nameB s) := Lib.hid (nameB_no fun h => by have := h.all k hlt; rw [hw] at this; cases this)
            have h3 := wrd_no hw
            obtain ⟨h31, h32, h33⟩ := h3
            clear hw
            go_wp2_with (first | (go_at_call 60; refine (ref01_letter _ _ (by omega) (by omega)).mono ?_; rintro e w' ⟨rfl, rfl⟩) | (go_at_call 61; refine (ref01_digit _ _ (by omega) (by omega)).mono ?_; rintro e w' ⟨rfl, rfl⟩))
            go_ret
            exact ⟨ret_bool HN.out, rfl⟩
          · have HN := Lib.hid hw
            have HY := Lib.hid (wrd_yes hw)
            clear hw
            rcases HY.out with h31 | ⟨h31, h32⟩ | ⟨h31, h32, h33⟩
            all_goals
              go_wp2_with (first | (go_at_call 60; refine (ref01_letter _ _ (by omega) (by omega)).mono ?_; rintro e w' ⟨rfl, rfl⟩) | (go_at_call 61; refine (ref01_digit _ _ (by omega) (by omega)).mono ?_; rintro e w' ⟨rfl, rfl⟩))
              go_round
              case rel => exact ⟨k + 1, by omega, by go_num, fun i hi => by
                by_cases e : i = k
                · subst e; exact HN.out
                · exact HA.out i (by omega)⟩
              case measure => simp [intOf]; omega
        · obtain rfl : k = s.size := by omega
          have HN : Hid (true = nameB s) := Lib.hid (nameB_yes ⟨h20, p, HA.out, HL.out⟩)
          go_wp2
          go_ret
          exact ⟨ret_bool HN.out, rfl⟩
  · have HN : Hid (false = nameB s) := Lib.hid (nameB_no fun h => h20 ⟨h.pos, h.len⟩)
    have h20' : s.size = 0 ∨ 20 < s.size := by omega
    clear h20
    rcases h20' with h20 | h20
    · obtain rfl : s = ByteArray.empty := ByteArray.ext (Array.eq_empty_of_size_eq_zero h20)
      go_enter Tryz.func41, Tryz.ntmps41
      go_wp2
      go_ret
      exact ⟨ret_bool HN.out, rfl⟩
    · have hne : ¬ s = ByteArray.empty := by rintro rfl; simp at h20
      go_enter Tryz.func41, Tryz.ntmps41
      go_wp2
      go_ret
      exact ⟨ret_bool HN.out, rfl⟩
end Go.Proofs.YtmmfkleplbofgaaGreatDoor

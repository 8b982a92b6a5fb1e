/- Contracts and plain laws, several texts in one: TpW; LgG; LgH; LgI; LgJ; LgK; LgL -/
import Derived.Test.YtcbicpbbjbkiaaaGreatDoorProg
import Derived.WalkKit
import Derived.WalkSpells
import Derived.WalkLawsBesides
import Derived.Lib.Hide
import Derived.BigQuiet
import Derived.Laws.BytesArg
import Derived.Test.YtcbicpbbjbkiaaaGreatDoorZmAA
import Derived.Test.YtcbicpbbjbkiaaaGreatDoorZmAB
import Derived.Test.YtcbicpbbjbkiaaaGreatDoorZmAG
import Derived.Test.YtcbicpbbjbkiaaaGreatDoorZmAJ
namespace Go.Proofs.YtcbicpbbjbkiaaaGreatDoor
open Go.RowKit

def smB (a b : Int) : Bool := decide (0 ≤ a) && decide (a ≤ b) && decide (b ≤ 120000)
theorem smB_iff {a b : Int} : smB a b = true ↔ 0 ≤ a ∧ a ≤ b ∧ b ≤ 120000 := by
 unfold smB
 rw [Bool.and_eq_true, Bool.and_eq_true, decide_eq_true_eq, decide_eq_true_eq, decide_eq_true_eq]
 omega
theorem cor_small (a b : Int) (w : World) :
  Calls Tryz.prog 86 #[(.agg #[.int .i64 (a), .int .i64 (b)])] w fun e w' => e = .returned (.bool (smB a b)) ∧ ∃ d, w' = bw w d := by
 refine lay_start ?_
 go_enter Tryz.func86, Tryz.ntmps86
 go_wp2
 all_goals go_ret
 all_goals exact ⟨ret_bool (by unfold smB; rw [Bool.eq_iff_iff]; simp; try omega), lay_ex _ _⟩
theorem lay_setOld {w : World} {b i : Nat} {v : Value} (h : b < w.heap.size) : ∀ L : List (Obj ⊕ Ext), (lay w L).setCell ⟨b, i, none⟩ v = lay (w.setCell ⟨b, i, none⟩ v) L
 | [] => rfl
 | x :: L => by
  have ih := lay_setOld (i := i) (v := v) h L
  have hlt : b < (lay w L).heap.size := Nat.lt_of_lt_of_le h (lay_extends w L).size
  cases x with
  | inl o => simp only [lay]; rw [World.setCell_alloc_past _ _ _ _ hlt, ih]
  | inr d => simp only [lay]; rw [bw_setCell _ _ _ _ _ hlt, ih]
theorem posn_set (w : World) (a : Addr) (v : Value) : posn w = posn (w.setCell a v) := by
 funext p
 unfold posn
 simp
theorem cor_arc (b : Nat) (x y e k : Int) (w : World) (hb : b < w.heap.size) (hc : w.cell? ⟨b, 0, none⟩ = some (.int .i64 k)) (hf : w.frozen? ⟨b, 0, none⟩ = false) :
  Calls Tryz.prog 24 #[.pointer (some ⟨b, 0, none⟩), (.agg #[.int .i64 (x), .int .i64 (y)]), .int .i64 e] w fun en w' => en = .returned ((.agg #[.int .i64 (x), .int .i64 (y)])) ∧ ∃ d, w' = bw (w.setCell ⟨b, 0, none⟩ (.int .i64 (if k = 0 then e else k))) d := by
 by_cases hk : k = 0
 ·subst hk
  rw [if_pos rfl]
  have hs := fun L => lay_setOld (i := 0) (v := .int .i64 e) hb L
  have hp := posn_set w ⟨b, 0, none⟩ (.int .i64 e)
  refine lay_start ?_
  go_enter Tryz.func24, Tryz.ntmps24
  generalize w.setCell ⟨b, 0, none⟩ (.int .i64 e) = w2 at *
  go_wp2_with fail
  exact bodyPost_ret (v := (.agg #[.int .i64 (x), .int .i64 (y)])) (by simp [results, Tryz.results24, go_sem]) rfl ⟨rfl, lay_ex _ _⟩
 ·rw [if_neg hk, set_same hc]
  have hz : (k == 0) = false := beq_eq_false_iff_ne.2 hk
  refine lay_start ?_
  go_enter Tryz.func24, Tryz.ntmps24
  go_wp2_with fail
  exact bodyPost_ret (v := (.agg #[.int .i64 (x), .int .i64 (y)])) (by simp [results, Tryz.results24, go_sem]) rfl ⟨rfl, lay_ex _ _⟩
theorem shp_mid (c : Array Value) (t : TypeId) (L2 : List (Obj ⊕ Ext)) : ∀ L1 : List (Obj ⊕ Ext), (shp (L1 ++ .inl (.cells c t (0, 0)) :: L2)).drop (L1.length + 1) = shp L2
 | [] => rfl
 | x :: L1 => by
  have ih := shp_mid c t L2 L1
  cases x <;> exact ih
theorem isC_mid (c : Array Value) (t : TypeId) (L2 : List (Obj ⊕ Ext)) : ∀ L1 : List (Obj ⊕ Ext), isC (L1 ++ .inl (.cells c t (0, 0)) :: L2) L1.length = true
 | [] => rfl
 | x :: L1 => by rw [List.cons_append, List.length_cons, isC_s]; exact isC_mid c t L2 L1
theorem updS_mid (c : Array Value) (t : TypeId) (L2 : List (Obj ⊕ Ext)) (v : Value) : ∀ L1 : List (Obj ⊕ Ext), updS (L1 ++ .inl (.cells c t (0, 0)) :: L2) L1.length 0 v = L1 ++ .inl (.cells (c.setIfInBounds 0 v) t (0, 0)) :: L2
 | [] => rfl
 | x :: L1 => by rw [List.cons_append, List.length_cons, updS_s, updS_mid c t L2 v L1]; rfl
theorem objS_mid (c : Array Value) (t : TypeId) (L2 : List (Obj ⊕ Ext)) : ∀ L1 : List (Obj ⊕ Ext), objS (L1 ++ .inl (.cells c t (0, 0)) :: L2) L1.length = some (.cells c t (0, 0))
 | [] => rfl
 | x :: L1 => by rw [List.cons_append, List.length_cons, objS_s]; exact objS_mid c t L2 L1
theorem cor_arcL (w : World) (L1 L2 : List (Obj ⊕ Ext)) (k x y e : Int) (t : TypeId) :
  Calls Tryz.prog 24 #[.pointer (some ⟨posn w (shp L2), 0, none⟩), (.agg #[.int .i64 (x), .int .i64 (y)]), .int .i64 e] (lay w (L1 ++ .inl (.cells #[.int .i64 k] t (0, 0)) :: L2)) fun en w' => en = .returned ((.agg #[.int .i64 (x), .int .i64 (y)])) ∧ ∃ d, w' = lay w (.inr d :: (L1 ++ .inl (.cells #[.int .i64 (if k = 0 then e else k)] t (0, 0)) :: L2)) := by
 have hg := lay_get w (L1 ++ .inl (.cells #[.int .i64 k] t (0, 0)) :: L2) L1.length _ (objS_mid _ t L2 L1)
 rw [shp_mid] at hg
 have hb := (Array.getElem?_eq_some_iff.1 hg).1
 have hc : (lay w (L1 ++ .inl (.cells #[.int .i64 k] t (0, 0)) :: L2)).cell? ⟨posn w (shp L2), 0, none⟩ = some (.int .i64 k) := by unfold World.cell?; dsimp only; rw [hg]; rfl
 have hf : (lay w (L1 ++ .inl (.cells #[.int .i64 k] t (0, 0)) :: L2)).frozen? ⟨posn w (shp L2), 0, none⟩ = false := by unfold World.frozen?; dsimp only; rw [hg]; rfl
 have hs := lay_set w 0 (.int .i64 (if k = 0 then e else k)) (L1 ++ .inl (.cells #[.int .i64 k] t (0, 0)) :: L2) L1.length (isC_mid _ t L2 L1)
 rw [shp_mid, updS_mid] at hs
 refine (cor_arc _ x y e k _ hb hc hf).mono ?_
 rintro en w' ⟨h1, d, h2⟩
 exact ⟨h1, d, by rw [h2, hs]; rfl⟩
set_option maxHeartbeats 1000000 in
theorem cor_given (ix : Int) (v : Value) (l : List ErV) (s : ByteArray) (lm t0 t1 hs by_ hz ey sh tp pr g0 g1 c0 c1 m0 m1 p0 p1 : Int) (w : World) (hv : SlG eR w v l) (hb : s.size ≤ 9223372036854775807) :
  Calls Tryz.prog 23 #[.agg #[.int .i64 ix, v], .agg #[.string s, .int .i64 lm, .int .i64 t0, .int .i64 t1, .int .i64 hs, .int .i64 by_, .int .i64 hz, .int .i64 ey, .int .i64 sh, .int .i64 tp, .int .i64 pr], .agg #[.int .i64 g0, .int .i64 g1, .int .i64 c0, .int .i64 c1, .int .i64 m0, .int .i64 m1, .int .i64 p0, .int .i64 p1]] w fun e w' => (∃ q : Bool, e = .returned (.bool q) ∧ (q = true → InsOk ix l ∧ SigOk hs by_ ∧ smB m0 m1 = true ∧ smB p0 p1 = true)) ∧ ∃ d, w' = bw w d := by
 obtain ⟨a, c, rfl⟩ := hv.form
 have HI := Lib.hid (fun L => inst_Valid ix _ l (lay w L) (hv.lay L))
 have HV := Lib.hid (fun W => cor_Valid s lm t0 t1 hs by_ hz ey sh tp pr W hb)
 have HM := Lib.hid (fun W => cor_small m0 m1 W)
 have HP := Lib.hid (fun W => cor_small p0 p1 W)
 clear hv hb
 generalize l.length = n at *
 refine lay_start ?_
 go_enter Tryz.func23, Tryz.ntmps23
 go_wp2_with fail
 refine (HI.out _).mono ?_
 rintro e w' ⟨⟨q1, rfl, hq1⟩, d1, rfl⟩
 rw [lay_bw]
 have HQ1 := Lib.hid hq1
 clear hq1
 cases q1
 ·go_wp2_with fail
  exact bodyPost_ret (v := .bool false) (by simp [results, Tryz.results23, go_sem]) rfl ⟨⟨false, rfl, fun h => by cases h⟩, lay_ex _ _⟩
 ·go_wp2_with fail
  refine (HV.out _).mono ?_
  rintro e w' ⟨⟨q2, rfl, hq2⟩, d2, rfl⟩
  rw [lay_bw]
  have HQ2 := Lib.hid hq2
  clear hq2
  cases q2
  ·go_wp2_with fail
   exact bodyPost_ret (v := .bool false) (by simp [results, Tryz.results23, go_sem]) rfl ⟨⟨false, rfl, fun h => by cases h⟩, lay_ex _ _⟩
  ·cases hm : smB m0 m1
   ·rw [hm] at HM
    go_wp2_with (go_at_call 86; refine (HM.out _).mono ?_; rintro e w' ⟨rfl, dm, rfl⟩; rw [lay_bw])
    exact bodyPost_ret (v := .bool false) (by simp [results, Tryz.results23, go_sem]) rfl ⟨⟨false, rfl, fun h => by cases h⟩, lay_ex _ _⟩
   ·rw [hm] at HM
    cases hp : smB p0 p1
    ·rw [hp] at HP
     go_wp2_with (go_at_call 86; first | ((with_reducible refine (HM.out _).mono ?_); rintro e w' ⟨rfl, dm, rfl⟩; rw [lay_bw]) | ((with_reducible refine (HP.out _).mono ?_); rintro e w' ⟨rfl, dm, rfl⟩; rw [lay_bw]))
     exact bodyPost_ret (v := .bool false) (by simp [results, Tryz.results23, go_sem]) rfl ⟨⟨false, rfl, fun h => by cases h⟩, lay_ex _ _⟩
    ·rw [hp] at HP
     go_wp2_with (go_at_call 86; first | ((with_reducible refine (HM.out _).mono ?_); rintro e w' ⟨rfl, dm, rfl⟩; rw [lay_bw]) | ((with_reducible refine (HP.out _).mono ?_); rintro e w' ⟨rfl, dm, rfl⟩; rw [lay_bw]))
     exact bodyPost_ret (v := .bool true) (by simp [results, Tryz.results23, go_sem]) rfl ⟨⟨true, rfl, fun _ => ⟨HQ1.out trivial, HQ2.out trivial, hm, hp⟩⟩, lay_ex _ _⟩
set_option maxHeartbeats 4000000 in
set_option maxRecDepth 100000 in
theorem lg_Add_x (g b : Nat) (w : World) (h : LogP w g b (.slice none 0 0) []) :
  Calls Tryz.prog 17 #[.pointer (some ⟨g, 0, none⟩), notV ⟨#[120]⟩] w fun e w' => e = .returned (.int .i64 0) ∧ ∃ v d, w' = bw (w.setCell ⟨g, 3, none⟩ v) d ∧ OwG rR w' w.heap.size v [notX] := by
 have HV := Lib.hid (fun W => lg_ValidRecord_x W)
 have HC := Lib.hid (fun W => lg_copied_x W)
 have hb := h.lt
 have hc3 := h.c3
 have hc0 := h.c0
 have hf3 := h.fz 3
 clear h
 unfold notV notC at *
 refine lay_start ?_
 go_enter Tryz.func17, Tryz.ntmps17
 go_wp2_with (go_at_call 68; refine (HV.out _).mono ?_; rintro e w' ⟨rfl, d1, rfl⟩; rw [lay_bw])
 refine region_bw (by kernel_rfl) (by kernel_rfl) ?_
 repeat (go_big_quiet_step ((first | fail)))
 refine wpQuiet_nil ?_
 rintro w' ⟨d, rfl⟩
 rw [lay_bw]
 go_wp2_with fail
 refine region_mixT 9 [0, 0, 0, 0, 0, 0, 1, 1, 1] (by kernel_rfl) (by kernel_rfl) (by kernel_rfl) (by kernel_rfl) (by simp) (by kernel_rfl) ?_
 simp only [List.take_succ_cons, List.take_zero, List.drop_succ_cons, List.drop_zero]
 repeat (refine wpM_quiet (fun K hK => ?_); go_simp; refine hK _ ?_; clear hK K)
 refine wpM_special (fun K hK d3 => ?_)
 rw [lay_bw]
 go_simp
 refine (HC.out _).mono ?_
 rintro e w' ⟨rfl, d2, rfl⟩
 rw [lay_bw]
 refine ⟨_, rfl, hK _ _ (by first | exact lay_in w [_, _] _) ?_⟩
 clear hK K
 refine wpM_special (fun K hK d4 => ?_)
 rw [lay_bw]
 go_simp
 refine hK _ _ (by exact lay_in w [_, _, _, _] _) ?_
 clear hK K
 refine wpM_special (fun K hK d5 => ?_)
 rw [lay_bw]
 refine sop_rec rOk rfl _ _ rfl (lay w [.inr d, .inr d1, .inl (.cells (notC ⟨#[120]⟩) 78 (0, 0))]) _ (.slice none 0 0) [] notX (notC ⟨#[120]⟩) 78 _ (lay_belowG (A := [.inr d5, .inl _, .inr d4, .inr d2, .inr d3])) (OwG.nil _ _ _) (lay_get w _ 1 _ rfl) rfl rfl rfl (by decide) trivial ?_
 intro v' d6 hv' _
 refine hK _ _ ⟨_, rfl⟩ ?_
 clear hK K
 refine wpM_nil ?_
 intro d7
 obtain ⟨va, vc, rfl⟩ := hv'.form
 have hs := fun L => lay_setOld (i := 3) (v := .slice va 1 vc) hb L
 have HF : Hid (OwG rR (lay (w.setCell ⟨g, 3, none⟩ (.slice va 1 vc)) (.inr d7 :: .inr d6 :: [.inr d, .inr d1, .inl (.cells (notC ⟨#[120]⟩) 78 (0, 0))])) w.heap.size (.slice va 1 vc) [notX]) := Lib.hid ((owG_swap (W2 := lay (w.setCell ⟨g, 3, none⟩ (.slice va 1 vc)) [.inr d, .inr d1, .inl (.cells (notC ⟨#[120]⟩) 78 (0, 0))]) hv' (Nat.le_refl _) (by rw [← hs, World.size_setCell])).bw d7 |>.le (lay_extends w _).size)
 clear hv'
 rw [lay_bw, lay_bw]
 go_wp2_with fail
 obtain ⟨dz, hz⟩ := lay_ex (w.setCell ⟨g, 3, none⟩ (.slice va 1 vc)) (.inr d7 :: .inr d6 :: [.inr d, .inr d1, .inl (.cells (notC ⟨#[120]⟩) 78 (0, 0))])
 exact bodyPost_ret (v := .int .i64 0) (by simp [results, Tryz.results17, go_sem]) rfl ⟨rfl, _, dz, hz, HF.out⟩
set_option maxHeartbeats 1000000 in
set_option maxRecDepth 100000 in
theorem rd_take (g b o cap n : Nat) (l : List Int) (w : World) (hg : w.heap[g]? = some (.cells #[.slice (some ⟨b, o, none⟩) l.length cap, .bool false] 232 (0, 0))) (hl : SlG bR w (.slice (some ⟨b, o, none⟩) l.length cap) l) (hn : n ≤ l.length) :
  Calls Tryz.prog 227 #[.pointer (some ⟨g, 0, none⟩), .int .i64 (n : Int)] w fun e w' => ∃ d, e = .returned (.slice (some ⟨b, o, none⟩) n cap) ∧ w' = bw (w.setCell ⟨g, 0, none⟩ (.slice (some ⟨b, if cap = n then o else o + n, none⟩) (l.length - n) (cap - n))) d := by
 have hb : g < w.heap.size := (Array.getElem?_eq_some_iff.1 hg).1
 have c0 : w.cell? ⟨g, 0, none⟩ = some (.slice (some ⟨b, o, none⟩) l.length cap) := by unfold World.cell?; dsimp only; rw [hg]; rfl
 have c1 : w.cell? ⟨g, 1, none⟩ = some (.bool false) := by unfold World.cell?; dsimp only; rw [hg]; rfl
 have f0 : w.frozen? ⟨g, 0, none⟩ = false := by unfold World.frozen?; dsimp only; rw [hg]; rfl
 have hcap : l.length ≤ cap ∧ cap ≤ 9223372036854775807 := by
  obtain ⟨a', c', e, hc, -⟩ := hl
  cases e; exact hc
 have x1 : ¬ ((l.length : Int) < n) := by omega
 clear hl hg
 refine lay_start ?_
 go_enter Tryz.func227, Tryz.ntmps227
 go_wp2_with fail
 ·subst h
  exact bodyPost_ret (v := .slice (some ⟨b, o, none⟩) cap cap) (by simp [results, Tryz.results227, go_sem]) rfl ⟨rfl, _, (bw_noExt _).symm⟩
 ·exact bodyPost_ret (v := .slice (some ⟨b, o, none⟩) n cap) (by simp [results, Tryz.results227, go_sem]) rfl ⟨rfl, _, (bw_noExt _).symm⟩
theorem rd_parts {b o cap n : Nat} {l : List Int} {w : World} (hl : SlG bR w (.slice (some ⟨b, o, none⟩) l.length cap) l) (hn : n ≤ l.length) :
  SlG bR w (.slice (some ⟨b, o, none⟩) n cap) (l.take n) ∧ SlG bR w (.slice (some ⟨b, if cap = n then o else o + n, none⟩) (l.length - n) (cap - n)) (l.drop n) := by
 have hcap : l.length ≤ cap ∧ cap ≤ 9223372036854775807 := by
  obtain ⟨a', c', e, hc, -⟩ := hl
  cases e; exact hc
 have h1 := slB_cut hl (f := 0) (k := n) (c := cap) (by omega) (by omega)
 have h2 := slB_rest hl hcap hn
 rw [Nat.add_zero, List.drop_zero] at h1
 refine ⟨h1, ?_⟩
 by_cases e : cap = n
 ·rw [if_pos e] at h2 ⊢; exact h2
 ·rw [if_neg e] at h2 ⊢; exact h2
def rdS (n c : Int) : Int := bits .or .i64 (wrap64 (n * 256)) c
def rdN (l : List Int) : Int := l.foldl rdS 0
theorem rdN_step {l : List Int} {j : Nat} {x : Int} (h : l[j]? = some x) : rdN (l.take (j + 1)) = rdS (rdN (l.take j)) x := by
 unfold rdN; rw [List.take_add_one, h, List.foldl_append]; rfl
def two (W : World) (g : Nat) (a : Array Value) (x : Nat) (c : Array Value) : World := (W.setRow g a).setRow x c
def reC (a : Array Value) : Obj → Obj
 | .cells _ t f => .cells a t f
 | o => o
theorem setRow_get (W : World) (g k : Nat) (a : Array Value) : (W.setRow g a).heap[k]? = if g = k then (W.heap[k]?).map (reC a) else W.heap[k]? := by
 unfold World.setRow
 rw [Array.getElem?_modify]
 by_cases h : g = k
 ·rw [if_pos h, if_pos h]
  congr 1
 ·rw [if_neg h, if_neg h]
theorem two_g {W : World} {g x : Nat} {a c b : Array Value} {t : TypeId} {f : Nat × Nat} (hg : W.heap[g]? = some (.cells b t f)) (hn : x ≠ g) : (two W g a x c).heap[g]? = some (.cells a t f) := by
 unfold two; rw [setRow_get, if_neg hn, setRow_get, if_pos rfl, hg]; rfl
theorem two_x {W : World} {g x : Nat} {a c b : Array Value} {t : TypeId} {f : Nat × Nat} (hx : W.heap[x]? = some (.cells b t f)) (hn : x ≠ g) : (two W g a x c).heap[x]? = some (.cells c t f) := by
 unfold two; rw [setRow_get, if_pos rfl, setRow_get, if_neg (fun e => hn e.symm), hx]; rfl
theorem two_o {W : World} {g x k : Nat} {a c : Array Value} (h1 : k ≠ g) (h2 : k ≠ x) : (two W g a x c).heap[k]? = W.heap[k]? := by
 unfold two; rw [setRow_get, if_neg (fun e => h2 e.symm), setRow_get, if_neg (fun e => h1 e.symm)]
theorem world_heap {W1 W2 : World} (h : ∀ k : Nat, W1.heap[k]? = W2.heap[k]?) (e : { W1 with heap := W2.heap } = W2) : W1 = W2 := by
 rw [← e]
 have : W1.heap = W2.heap := Array.ext_getElem? h
 rw [← this]
theorem two_setG {W : World} {g x : Nat} {a c b : Array Value} {t : TypeId} {f : Nat × Nat} (hg : W.heap[g]? = some (.cells b t f)) (hn : x ≠ g) (v : Value) : (two W g a x c).setCell ⟨g, 0, none⟩ v = two W g (a.setIfInBounds 0 v) x c := by
 refine world_heap (fun k => ?_) rfl
 by_cases hk : k = g
 ·subst hk
  rw [two_g hg hn]
  unfold World.setCell
  dsimp only
  rw [Array.getElem?_modify, if_pos rfl, two_g hg hn]
  rfl
 ·rw [heap_setCell_other _ ⟨g, 0, none⟩ k v hk]
  by_cases hx : k = x
  ·subst hx
   unfold two
   rw [setRow_get, if_pos rfl, setRow_get, if_neg (fun e => hn e.symm), setRow_get, if_pos rfl, setRow_get, if_neg (fun e => hn e.symm)]
  ·rw [two_o hk hx, two_o hk hx]
theorem two_setX {W : World} {g x i : Nat} {a c b : Array Value} {t : TypeId} {f : Nat × Nat} (hx : W.heap[x]? = some (.cells b t f)) (hn : x ≠ g) (v : Value) : (two W g a x c).setCell ⟨x, i, none⟩ v = two W g a x (c.setIfInBounds i v) := by
 refine world_heap (fun k => ?_) rfl
 by_cases hk : k = x
 ·subst hk
  rw [two_x hx hn]
  unfold World.setCell
  dsimp only
  rw [Array.getElem?_modify, if_pos rfl, two_x hx hn]
  rfl
 ·rw [heap_setCell_other _ ⟨x, i, none⟩ k v hk]
  by_cases hg : k = g
  ·subst hg
   unfold two
   rw [setRow_get, if_neg hn, setRow_get, if_pos rfl, setRow_get, if_neg hn, setRow_get, if_pos rfl]
  ·rw [two_o hg hk, two_o hg hk]
end Go.Proofs.YtcbicpbbjbkiaaaGreatDoor
namespace Go.Proofs.YtcbicpbbjbkiaaaGreatDoor
set_option maxHeartbeats 1000000
set_option maxRecDepth 100000
open Go.RowKit

structure RdI (W : World) (g b o cap : Nat) (l : List Int) : Prop where
 blk : W.heap[g]? = some (.cells #[.slice (some ⟨b, o, none⟩) l.length cap, .bool false] 232 (0, 0))
 row : SlG bR W (.slice (some ⟨b, o, none⟩) l.length cap) l
 ne : b ≠ g
theorem RdI.lt {W : World} {g b o cap : Nat} {l : List Int} (h : RdI W g b o cap l) : g < W.heap.size := (Array.getElem?_eq_some_iff.1 h.blk).1
theorem RdI.c0 {W : World} {g b o cap : Nat} {l : List Int} (h : RdI W g b o cap l) : W.cell? ⟨g, 0, none⟩ = some (.slice (some ⟨b, o, none⟩) l.length cap) := by unfold World.cell?; dsimp only; rw [h.blk]; rfl
theorem RdI.c1 {W : World} {g b o cap : Nat} {l : List Int} (h : RdI W g b o cap l) : W.cell? ⟨g, 1, none⟩ = some (.bool false) := by unfold World.cell?; dsimp only; rw [h.blk]; rfl
theorem slG_block {α : Type} {R : RecT α} {W W2 : World} {b o n cap : Nat} {l : List α} (h : SlG R W (.slice (some ⟨b, o, none⟩) n cap) l) (hs : W.heap.size = W2.heap.size) (hk : W2.heap[b]? = W.heap[b]?) : SlG R W2 (.slice (some ⟨b, o, none⟩) n cap) l := by
 obtain ⟨a, c, e, h2, h0, h3⟩ := h
 cases e
 refine ⟨_, _, rfl, h2, h0, fun hl => ?_⟩
 obtain ⟨b', o', e, h4, h5⟩ := h3 hl
 cases e
 exact ⟨_, _, rfl, by rw [← hs]; exact h4, fun i x hx j u hu => (World.cell?_of_block (a := ⟨b, o + (i * R.k + j), none⟩) hk).trans (h5 i x hx j u hu)⟩
theorem RdI.bw {W : World} {g b o cap : Nat} {l : List Int} (h : RdI W g b o cap l) (d : Ext) : RdI (bw W d) g b o cap l := ⟨(bw_get W d g h.lt).trans h.blk, h.row.bw d, h.ne⟩
theorem RdI.lay {W : World} {g b o cap : Nat} {l : List Int} (h : RdI W g b o cap l) (L : List (Obj ⊕ Ext)) : RdI (lay W L) g b o cap l := by
 obtain ⟨d, hd⟩ := lay_ex W L
 rw [hd]
 exact h.bw d
def rdO (o cap n : Nat) : Nat := if cap = n then o else o + n
def rdW (w : World) (g b o cap : Nat) (l : List Int) : World := w.setCell ⟨g, 0, none⟩ (.slice (some ⟨b, o, none⟩) l.length cap)
theorem RdI.set {w : World} {g b o cap o2 cap2 : Nat} {l m : List Int} (h : RdI w g b o cap l) (hm : SlG bR w (.slice (some ⟨b, o2, none⟩) m.length cap2) m) : RdI (rdW w g b o2 cap2 m) g b o2 cap2 m := by
 have hk : (rdW w g b o2 cap2 m).heap[b]? = w.heap[b]? := heap_setCell_other _ ⟨g, 0, none⟩ b _ h.ne
 have hsz : w.heap.size = (rdW w g b o2 cap2 m).heap.size := by unfold rdW; rw [World.size_setCell]
 refine ⟨?_, slG_block hm hsz hk, h.ne⟩
 unfold rdW World.setCell
 simp [Array.getElem?_modify, h.blk]
theorem rd_takeL (g b o cap n : Nat) (l : List Int) (w : World) (L : List (Obj ⊕ Ext)) (h : RdI w g b o cap l) (hn : n ≤ l.length) :
  Calls Tryz.prog 227 #[.pointer (some ⟨g, 0, none⟩), .int .i64 (n : Int)] (lay w L) fun e w' => ∃ d, e = .returned (.slice (some ⟨b, o, none⟩) n cap) ∧ w' = lay (rdW w g b (rdO o cap n) (cap - n) (l.drop n)) (.inr d :: L) ∧ RdI (rdW w g b (rdO o cap n) (cap - n) (l.drop n)) g b (rdO o cap n) (cap - n) (l.drop n) ∧ SlG bR (rdW w g b (rdO o cap n) (cap - n) (l.drop n)) (.slice (some ⟨b, o, none⟩) n cap) (l.take n) := by
 refine (rd_take g b o cap n l (lay w L) (h.lay L).blk (h.lay L).row hn).mono ?_
 rintro e w' ⟨d, rfl, rfl⟩
 obtain ⟨h1, h2⟩ := rd_parts h.row hn
 have e1 : l.length - n = (l.drop n).length := by rw [List.length_drop]
 rw [e1] at h2 ⊢
 rw [lay_setOld h.lt L]
 have hk : (rdW w g b (rdO o cap n) (cap - n) (l.drop n)).heap[b]? = w.heap[b]? := heap_setCell_other _ ⟨g, 0, none⟩ b _ h.ne
 have hsz : w.heap.size = (rdW w g b (rdO o cap n) (cap - n) (l.drop n)).heap.size := by unfold rdW; rw [World.size_setCell]
 exact ⟨d, rfl, rfl, h.set h2, slG_block h1 hsz hk⟩
theorem set_set (w : World) (a : Addr) (u v : Value) : (w.setCell a u).setCell a v = w.setCell a v := by
 unfold World.setCell
 congr 1
 apply Array.ext_getElem?
 intro k
 simp only [Array.getElem?_modify]
 by_cases h : a.block = k
 ·simp only [h, if_true]
  cases w.heap[k]? with
  | none => rfl
  | some o =>
   cases o with
   | cells c t f =>
    simp only [Option.map_some]
    by_cases hs : a.spot.isSome = true
    ·simp [hs]
    ·simp [hs]
   | _ => rfl
 ·simp [h]
theorem rdW_rdW (w : World) (g b o1 c1 o2 c2 : Nat) (l1 l2 : List Int) : rdW (rdW w g b o1 c1 l1) g b o2 c2 l2 = rdW w g b o2 c2 l2 := set_set _ _ _ _
def RdP (w : World) (g b o cap : Nat) (l : List Int) (v : Value) (e : Ending) (w' : World) : Prop := ∃ d, e = .returned v ∧ w' = bw (rdW w g b o cap l) d ∧ RdI (rdW w g b o cap l) g b o cap l
def szV (x y : Int) : Int := bits .or .i64 (x * 256) y
theorem rd_size (g b o cap : Nat) (x y : Int) (l : List Int) (w : World) (h : RdI w g b o cap (x :: y :: l)) :
  Calls Tryz.prog 152 #[.pointer (some ⟨g, 0, none⟩)] w (RdP w g b (rdO o cap 2) (cap - 2) l (.int .i64 (szV x y))) := by
 have HT := Lib.hid (rd_takeL g b o cap 2 _ w [] h (by simp))
 have hw0 := slB_by h.row
 have hx := hw0 x (by simp)
 have hy := hw0 y (by simp)
 clear h hw0
 unfold RdP
 refine lay_start ?_
 go_enter Tryz.func152, Tryz.ntmps152
 go_wp2_with fail
 refine HT.out.mono ?_
 rintro e w' ⟨d, rfl, rfl, h2', h3'⟩
 obtain ⟨W2, hW⟩ : ∃ W2, W2 = rdW w g b (rdO o cap 2) (cap - 2) l := ⟨_, rfl⟩
 rw [show List.drop 2 (x :: y :: l) = l from rfl, ← hW] at h2' h3' ⊢
 have HW := Lib.hid hW
 have c1 := h2'.c1
 have hlt := h2'.lt
 have k0 := slB_cell (i := 0) (x := x) h3' rfl
 have k1 := slB_cell (i := 1) (x := y) h3' rfl
 rw [Nat.add_zero] at k0
 have hlb := cell_lt k0
 have H2 := Lib.hid h2'
 clear h2' h3' HT hW
 go_wp2_with fail
 refine region_bw (by kernel_rfl) (by kernel_rfl) ?_
 repeat (go_big_quiet_step ((first | fail)))
 refine wpQuiet_nil ?_
 rintro w' ⟨d, rfl⟩
 rw [lay_bw]
 go_wp2_with fail
 exact bodyPost_ret (v := .int .i64 (szV x y)) (by simp [results, Tryz.results152, go_sem, szV]) rfl (by rw [← HW.out]; exact ⟨_, rfl, (lay_ex W2 _).choose_spec, H2.out⟩)
theorem rd_str (g b o cap : Nat) (x y : Int) (l : List Int) (n : Nat) (w : World) (h : RdI w g b o cap (x :: y :: l)) (hn : szV x y = (n : Int)) (hl : n ≤ l.length) :
  Calls Tryz.prog 150 #[.pointer (some ⟨g, 0, none⟩)] w (RdP w g b (rdO (rdO o cap 2) (cap - 2) n) (cap - 2 - n) (l.drop n) (.string (strOfNums (l.take n)))) := by
 have HS := Lib.hid (rd_size g b o cap x y l w h)
 rw [hn] at HS
 clear h hn
 have HL := Lib.hid hl
 clear hl
 unfold RdP
 refine lay_start ?_
 go_enter Tryz.func150, Tryz.ntmps150
 go_wp2_with fail
 refine HS.out.mono ?_
 rintro e w' ⟨d, rfl, rfl, h2⟩
 obtain ⟨W2, hW⟩ : ∃ W2, W2 = rdW w g b (rdO o cap 2) (cap - 2) l := ⟨_, rfl⟩
 have hWW := rdW_rdW w g b (rdO o cap 2) (cap - 2) (rdO (rdO o cap 2) (cap - 2) n) (cap - 2 - n) l (l.drop n)
 rw [← hW] at h2 hWW
 rw [← hW]
 have HT := Lib.hid (rd_takeL g b _ (cap - 2) n l W2 [.inr d] h2 HL.out)
 rw [hWW] at HT
 rw [show bw W2 d = lay W2 [.inr d] from rfl]
 clear h2 hW HS hWW
 go_wp2_with fail
 refine HT.out.mono ?_
 rintro e w' ⟨d2, rfl, rfl, h3, h4⟩
 obtain ⟨W3, hW⟩ : ∃ W3, W3 = rdW w g b (rdO (rdO o cap 2) (cap - 2) n) (cap - 2 - n) (l.drop n) := ⟨_, rfl⟩
 rw [← hW] at h3 h4 ⊢
 have HW3 := Lib.hid hW
 have H3 := Lib.hid h3
 have hl' := HL.out
 have hln : (l.take n).length = n := by rw [List.length_take]; omega
 have hcv := fun L => run_convert_bytes_arg (P := Tryz.prog) (lay W3 L) 68 5 Tryz.underlying68 Tryz.underlying5 b (rdO o cap 2) n (cap - 2) (l.take n) hln (fun i hi => slB_cell (x := (l.take n).getD i 0) (h4.lay L) (by rw [List.getD_eq_getElem?_getD, List.getElem?_eq_getElem (show i < (l.take n).length by omega)]; rfl)) 9 Tryz.underlying9
 clear h3 h4 hW HT hl' hln
 go_wp2_with fail
 exact bodyPost_ret (v := .string (strOfNums (l.take n))) (by simp [results, Tryz.results150, go_sem]) rfl (by rw [← HW3.out]; exact ⟨_, rfl, (lay_ex W3 _).choose_spec, H3.out⟩)
end Go.Proofs.YtcbicpbbjbkiaaaGreatDoor
namespace Go.Proofs.YtcbicpbbjbkiaaaGreatDoor
open Go.RowKit

def csF : Array Value → List Nat → List Int → Array Value
 | cs, [], _ => cs
 | cs, j :: js, l => csF (cs.setIfInBounds j (.int .i64 (rdN (l.take 8)))) js (l.drop 8)
structure IntoI (w W : World) (g b cap xb : Nat) (offs : List Nat) (l : List Int) (cs : Array Value) (t : TypeId) (i oi : Nat) (ci : Array Value) : Prop where
 eq : W = two w g #[.slice (some ⟨b, oi, none⟩) (l.drop (8 * i)).length (cap - 8 * i), .bool false] xb ci
 rd : RdI W g b oi (cap - 8 * i) (l.drop (8 * i))
 x : W.heap[xb]? = some (.cells ci t (0, 0))
 sz : ci.size = cs.size
 rest : csF ci (offs.drop i) (l.drop (8 * i)) = csF cs offs l
 oth : ∀ k, k ≠ g → k ≠ xb → W.heap[k]? = w.heap[k]?
theorem two_id {w : World} {g xb : Nat} {a c : Array Value} {t1 t2 : TypeId} {f1 f2 : Nat × Nat} (hg : w.heap[g]? = some (.cells a t1 f1)) (hx : w.heap[xb]? = some (.cells c t2 f2)) (hn : xb ≠ g) : two w g a xb c = w := by
 refine world_heap (fun k => ?_) rfl
 by_cases h1 : k = g
 ·subst h1; rw [two_g hg hn, hg]
 ·by_cases h2 : k = xb
  ·subst h2; rw [two_x hx hn, hx]
  ·exact two_o h1 h2
theorem IntoI.start {w : World} {g b o cap xb : Nat} {offs : List Nat} {l : List Int} {cs : Array Value} {t : TypeId} (h : RdI w g b o cap l) (hx : w.heap[xb]? = some (.cells cs t (0, 0))) (hn : xb ≠ g) : IntoI w w g b cap xb offs l cs t 0 o cs :=
 ⟨by rw [Nat.mul_zero, List.drop_zero, Nat.sub_zero]; exact (two_id h.blk hx hn).symm, by rw [Nat.mul_zero, List.drop_zero, Nat.sub_zero]; exact h, hx, rfl, by rw [Nat.mul_zero, List.drop_zero, List.drop_zero], fun _ _ _ => rfl⟩
theorem IntoI.next {w W : World} {g b cap xb : Nat} {offs : List Nat} {l : List Int} {cs ci : Array Value} {t tg : TypeId} {i oi j : Nat} {bx : Array Value} (h : IntoI w W g b cap xb offs l cs t i oi ci) (hg : w.heap[g]? = some (.cells bx tg (0, 0))) (hx : w.heap[xb]? = some (.cells cs t (0, 0))) (hn : xb ≠ g) (hbx : b ≠ xb) (hj : offs[i]? = some j) (hl : 8 * i + 8 ≤ l.length) :
  IntoI w ((rdW W g b (rdO oi (cap - 8 * i) 8) (cap - 8 * i - 8) ((l.drop (8 * i)).drop 8)).setCell ⟨xb, j, none⟩ (.int .i64 (rdN ((l.drop (8 * i)).take 8)))) g b cap xb offs l cs t (i + 1) (rdO oi (cap - 8 * i) 8) (ci.setIfInBounds j (.int .i64 (rdN ((l.drop (8 * i)).take 8)))) := by
 have e1 : (l.drop (8 * i)).drop 8 = l.drop (8 * (i + 1)) := by rw [List.drop_drop]; congr 1
 have e2 : cap - 8 * i - 8 = cap - 8 * (i + 1) := by omega
 have hlen : 8 ≤ (l.drop (8 * i)).length := by rw [List.length_drop]; omega
 obtain ⟨p1, p2⟩ := rd_parts h.rd.row hlen
 have p2' : SlG bR W (.slice (some ⟨b, rdO oi (cap - 8 * i) 8, none⟩) ((l.drop (8 * i)).drop 8).length (cap - 8 * i - 8)) ((l.drop (8 * i)).drop 8) := by
  have e3 : (l.drop (8 * i)).length - 8 = ((l.drop (8 * i)).drop 8).length := by rw [List.length_drop (i := 8)]
  rw [e3] at p2; exact p2
 have hr := h.rd.set p2'
 have hgW := h.rd.blk
 have hne : g ≠ xb := fun e => hn e.symm
 have k1 : (rdW W g b (rdO oi (cap - 8 * i) 8) (cap - 8 * i - 8) ((l.drop (8 * i)).drop 8)).heap[xb]? = some (.cells ci t (0, 0)) := (heap_setCell_other _ ⟨g, 0, none⟩ xb _ hn).trans h.x
 rw [e1, e2] at hr k1 ⊢
 generalize hv : Value.int .i64 (rdN ((l.drop (8 * i)).take 8)) = v
 have hother : ∀ k, k ≠ xb → ((rdW W g b (rdO oi (cap - 8 * i) 8) (cap - 8 * (i + 1)) (l.drop (8 * (i + 1)))).setCell ⟨xb, j, none⟩ v).heap[k]? = (rdW W g b (rdO oi (cap - 8 * i) 8) (cap - 8 * (i + 1)) (l.drop (8 * (i + 1)))).heap[k]? := fun k hk => heap_setCell_other _ ⟨xb, j, none⟩ k v hk
 refine ⟨?_, ⟨(hother g hne).trans hr.blk, slG_block hr.row (by rw [World.size_setCell]) (hother b hbx), h.rd.ne⟩, ?_, by rw [Array.size_setIfInBounds]; exact h.sz, ?_, fun k h1 h2 => ?_⟩
 ·unfold rdW
  rw [h.eq, two_setG hg hn, two_setX hx hn]
  rfl
 ·unfold World.setCell
  simp only [Array.getElem?_modify, if_true, k1]
  rfl
 ·have := h.rest
  rw [← this]
  have e4 : offs.drop i = j :: offs.drop (i + 1) := by
   obtain ⟨hlt, e⟩ := List.getElem?_eq_some_iff.1 hj
   rw [List.drop_eq_getElem_cons hlt, e]
  rw [e4, ← hv]
  show csF _ (offs.drop (i + 1)) (l.drop (8 * (i + 1))) = csF _ (offs.drop (i + 1)) ((l.drop (8 * i)).drop 8)
  rw [e1]
 ·exact (hother k h2).trans ((heap_setCell_other _ ⟨g, 0, none⟩ k _ h1).trans (h.oth k h1 h2))
theorem IntoI.cx {w W : World} {g b cap xb : Nat} {offs : List Nat} {l : List Int} {cs ci : Array Value} {t : TypeId} {i oi j : Nat} (h : IntoI w W g b cap xb offs l cs t i oi ci) (hj : j < cs.size) : (∃ u, W.cell? ⟨xb, j, none⟩ = some u) ∧ W.frozen? ⟨xb, j, none⟩ = false ∧ xb < W.heap.size := by
 refine ⟨⟨ci[j]'(by rw [h.sz]; exact hj), ?_⟩, ?_, (Array.getElem?_eq_some_iff.1 h.x).1⟩
 ·unfold World.cell?
  dsimp only
  rw [h.x]
  show ci[j]? = _
  rw [Array.getElem?_eq_getElem]
 ·unfold World.frozen?
  dsimp only
  rw [h.x]
  show (decide (0 ≤ j) && decide (j < 0)) = false
  simp
set_option maxHeartbeats 2000000 in
set_option maxRecDepth 100000 in
theorem rd_into (g b o cap xb pb : Nat) (offs : List Nat) (l : List Int) (cs : Array Value) (t : TypeId) (w : World) (h : RdI w g b o cap l) (hx : w.heap[xb]? = some (.cells cs t (0, 0))) (hn : xb ≠ g) (hbx : b ≠ xb) (hoff : ∀ j ∈ offs, j < cs.size)
  (hp : ∀ i j, offs[i]? = some j → w.cell? ⟨pb, i, none⟩ = some (.pointer (some ⟨xb, j, none⟩))) (hpg : pb ≠ g) (hpx : pb ≠ xb) (hl : 8 * offs.length ≤ l.length) (hb : offs.length ≤ 1000) :
  Calls Tryz.prog 151 #[.pointer (some ⟨g, 0, none⟩), .slice (some ⟨pb, 0, none⟩) offs.length offs.length] w fun e w' => ∃ o2 W d, e = .returned (.tuple #[]) ∧ w' = bw W d ∧ IntoI w W g b cap xb offs l cs t offs.length o2 (csF cs offs l) := by
 have HS := Lib.hid (IntoI.start (offs := offs) (cs := cs) (t := t) h hx hn)
 have HX := Lib.hid (And.intro h.blk (And.intro hx (And.intro hn hbx)))
 have HP := Lib.hid hp
 have HF := Lib.hid hoff
 have HG := Lib.hid (And.intro hpg hpx)
 have HL := Lib.hid hl
 obtain ⟨m, hm⟩ : ∃ m, offs.length = m := ⟨_, rfl⟩
 have HM := Lib.hid hm
 rw [hm] at hb ⊢
 clear h hx hn hbx hoff hp hpg hpx hl hm
 refine lay_start ?_
 go_enter Tryz.func151, Tryz.ntmps151
 go_wp2_with fail
 go_loopw [11] (fun v11 wr => ∃ (i oi : Nat) (ci : Array Value) (W : World) (d : Ext), i ≤ m ∧ v11 = .int .i64 (i : Int) ∧ wr = lay W [.inr d] ∧ IntoI w W g b cap xb offs l cs t i oi ci) (fun v11 _ => m - (intOf v11).toNat)
 case atStart => exact ⟨0, o, cs, w, noExt w, Nat.zero_le _, rfl, (bw_noExt w).symm, HS.out⟩
 case round =>
  obtain ⟨i, oi, ci, W, d, hi, rfl, rfl, hI⟩ := hrel
  by_cases hlt : i < m
  ·obtain ⟨j, hj⟩ : ∃ j, offs[i]? = some j := ⟨_, List.getElem?_eq_getElem (by rw [HM.out]; exact hlt)⟩
   have hl8 : 8 * i + 8 ≤ l.length := by have := HL.out; rw [HM.out] at this; omega
   have HN := Lib.hid (hI.next HX.out.1 HX.out.2.1 HX.out.2.2.1 HX.out.2.2.2 hj hl8)
   have hpc : W.cell? ⟨pb, i, none⟩ = some (.pointer (some ⟨xb, j, none⟩)) := (World.cell?_of_block (a := ⟨pb, i, none⟩) (hI.oth pb HG.out.1 HG.out.2)).trans (HP.out i j hj)
   have hpl := cell_lt hpc
   have HT := Lib.hid (fun L => rd_takeL g b oi (cap - 8 * i) 8 (l.drop (8 * i)) W L hI.rd (by rw [List.length_drop]; omega))
   have HI := Lib.hid hI
   have HJ := Lib.hid (HF.out j (List.mem_of_getElem? hj))
   have H8 : Hid (((l.drop (8 * i)).take 8).length = 8) := Lib.hid (by rw [List.length_take, List.length_drop]; omega)
   have x1 : (i : Int) < m := by omega
   rw [show ((8 : Nat) : Int) = 8 from rfl] at HT
   clear hI hj hl8
   go_wp2_with fail
   refine (HT.out _).mono ?_
   rintro e w' ⟨d2, rfl, rfl, h2, h3⟩
   obtain ⟨u, hu⟩ := (HI.out.cx HJ.out).1
   have hcu : (rdW W g b (rdO oi (cap - 8 * i) 8) (cap - 8 * i - 8) ((l.drop (8 * i)).drop 8)).cell? ⟨xb, j, none⟩ = some u := (World.cell?_of_block (a := ⟨xb, j, none⟩) (heap_setCell_other _ ⟨g, 0, none⟩ xb _ HX.out.2.2.1)).trans hu
   have hfu : (rdW W g b (rdO oi (cap - 8 * i) 8) (cap - 8 * i - 8) ((l.drop (8 * i)).drop 8)).frozen? ⟨xb, j, none⟩ = false := by
    refine Eq.trans ?_ (HI.out.cx HJ.out).2.1
    unfold World.frozen?
    dsimp only
    rw [show (rdW W g b (rdO oi (cap - 8 * i) 8) (cap - 8 * i - 8) ((l.drop (8 * i)).drop 8)).heap[xb]? = W.heap[xb]? from heap_setCell_other _ ⟨g, 0, none⟩ xb _ HX.out.2.2.1]
   obtain ⟨W2, hW2⟩ : ∃ W2, W2 = rdW W g b (rdO oi (cap - 8 * i) 8) (cap - 8 * i - 8) ((l.drop (8 * i)).drop 8) := ⟨_, rfl⟩
   obtain ⟨bs, hbs⟩ : ∃ bs, bs = (l.drop (8 * i)).take 8 := ⟨_, rfl⟩
   rw [← hW2] at h2 h3 HN hcu hfu ⊢
   rw [← hbs] at h3 HN H8
   have hlu := cell_lt hcu
   have HC : Hid (∀ k x, bs[k]? = some x → W2.cell? ⟨b, oi + k, none⟩ = some (.int .u8 x) ∧ (0 ≤ x ∧ x < 256)) := Lib.hid (fun k x hk => ⟨slB_cell h3 hk, slB_by h3 x (List.mem_of_getElem? hk)⟩)
   clear h2 h3 hW2 hbs hu HT HI hpc hpl
   go_wp2_with fail
   go_loopw [6, 18] (fun v6 v18 wr => ∃ (k : Nat) (d3 : Ext), k ≤ 8 ∧ v18 = .int .i64 (k : Int) ∧ v6 = .int .i64 (rdN (bs.take k)) ∧ wr = lay W2 [.inr d3]) (fun _ v18 _ => 8 - (intOf v18).toNat)
   case atStart =>
    obtain ⟨d3, hd3⟩ := lay_ex W2 [.inr d2, .inr d]
    exact ⟨0, d3, by decide, rfl, rfl, hd3⟩
   case round =>
    obtain ⟨k, d3, hk, rfl, rfl, rfl⟩ := hrel
    by_cases hk8 : k < 8
    ·obtain ⟨x, hkx⟩ : ∃ x, bs[k]? = some x := ⟨_, List.getElem?_eq_getElem (by rw [H8.out]; exact hk8)⟩
     obtain ⟨hcx, hx0, hx1⟩ := HC.out k x hkx
     have hlx := cell_lt hcx
     have HR := Lib.hid (rdN_step hkx)
     have x2 : (k : Int) < 8 := by omega
     clear hkx
     generalize rdN (bs.take k) = n at *
     go_wp2_with fail
     exact ⟨⟨k + 1, d3, hk8, rfl, by rw [HR.out]; rfl, rfl⟩, by simp only [intOf]; omega⟩
    ·obtain rfl : k = 8 := by omega
     have h8 : bs.take 8 = bs := List.take_of_length_le (by rw [H8.out]; decide)
     rw [h8]
     generalize rdN bs = n at *
     have hs := fun L => lay_setOld (i := j) (v := .int .i64 n) hlu L
     clear h8
     go_wp2_with fail
     exact ⟨⟨i + 1, _, _, _, d3, hlt, rfl, rfl, HN.out⟩, by simp only [intOf]; omega⟩
  ·obtain rfl : i = m := by omega
   have HI := Lib.hid hI
   have x1 : ¬ (i : Int) < i := by omega
   have HE : Hid (ci = csF cs offs l) := Lib.hid (by have := HI.out.rest; rw [← HM.out, List.drop_length] at this; exact this)
   clear hI
   go_wp2_with fail
   (try simp only [Exit.inBlock, Exit.then])
   exact bodyPost_end (v := .tuple #[]) (results_none rfl _ _ _) rfl ⟨rfl, oi, W, ⟨d, rfl⟩, by rw [← HE.out]; exact HI.out⟩
end Go.Proofs.YtcbicpbbjbkiaaaGreatDoor

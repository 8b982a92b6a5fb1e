/- Contracts and plain laws, several texts in one: Rf7; Sgn; Wh0; Wh1; Rf5; Rf8 -/
import Derived.Test.YtjfpgpipbooilaaGreatProg
import Derived.WalkKit
import Derived.WalkSpells
import Derived.WalkLawsBesides
import Derived.Lib.Hide
import Derived.BigQuiet
import Derived.Deep.RegionWith
import Derived.Test.YtjfpgpipbooilaaGreatVAA
import Derived.Test.YtjfpgpipbooilaaGreatVAB
import Derived.Test.YtjfpgpipbooilaaGreatVAC
import Derived.Test.YtjfpgpipbooilaaGreatVAE
import Derived.Test.YtjfpgpipbooilaaGreatVAY
import Derived.Test.YtjfpgpipbooilaaGreatVAZ
import Derived.Test.YtjfpgpipbooilaaGreatVBD
import Derived.Test.YtjfpgpipbooilaaGreatVBE
import Derived.Test.YtjfpgpipbooilaaGreatVBK
import Derived.Test.YtjfpgpipbooilaaGreatVBL
import Derived.Test.YtjfpgpipbooilaaGreatVBN
/- increments.instant, Gha, Dec, During. -/
namespace Go.Proofs.YtjfpgpipbooilaaGreat
set_option maxHeartbeats 2000000
set_option maxRecDepth 100000
open Go.RowKit

theorem lay_drew (w : World) (L : List (Obj ⊕ Ext)) : ∃ d, (lay w L).drew = lay w (.inr d :: L) := ⟨⟨#[], (lay w L).drew.drawn⟩, by
  show _ = bw (lay w L) _
  unfold bw World.drew; simp⟩
noncomputable def instE (t : TrkV) (ms : Int) : Int := if trkB t = true then (if 0 ≤ ms ∧ ms ≤ 86400000 then 0 else 2) else 1
theorem inc_instant (v : Value) (t : TrkV) (ms : Int) (w : World) (hv : Trk w v t) :
    Calls Tryz.prog 169 #[v, .int .i64 ms] w fun e w' => e = .returned (.int .i64 (instE t ms)) ∧ ∃ d, w' = bw w d := by
  obtain ⟨vg, vd, hvv, -⟩ := id hv
  subst hvv
  have HV := Lib.hid (fun L => inc_valid _ t (lay w L) (hv.lay L))
  clear hv
  cases hB : trkB t
  · have e1 : instE t ms = 1 := by unfold instE; rw [hB]; rfl
    rw [hB] at HV
    rw [e1]
    clear e1 hB
    refine lay_start ?_
    go_enter Tryz.func169, Tryz.ntmps169
    go_wp2_with (go_at_call 200; refine (HV.out _).mono ?_; rintro e w' ⟨rfl, d, rfl⟩)
    go_ret
    exact ⟨rfl, lay_ex _ _⟩
  · have e1 : instE t ms = if 0 ≤ ms ∧ ms ≤ 86400000 then 0 else 2 := by unfold instE; rw [hB]; rfl
    rw [hB] at HV
    rw [e1]
    clear e1 hB
    by_cases h0 : ms < 0
    · rw [if_neg (by omega)]
      refine lay_start ?_
      go_enter Tryz.func169, Tryz.ntmps169
      go_wp2_with (go_at_call 200; refine (HV.out _).mono ?_; rintro e w' ⟨rfl, d, rfl⟩)
      go_ret
      exact ⟨rfl, lay_ex _ _⟩
    · by_cases h1 : 86400000 < ms
      · rw [if_neg (by omega)]
        refine lay_start ?_
        go_enter Tryz.func169, Tryz.ntmps169
        go_wp2_with (go_at_call 200; refine (HV.out _).mono ?_; rintro e w' ⟨rfl, d, rfl⟩)
        go_ret
        exact ⟨rfl, lay_ex _ _⟩
      · rw [if_pos (by omega)]
        refine lay_start ?_
        go_enter Tryz.func169, Tryz.ntmps169
        go_wp2_with (go_at_call 200; refine (HV.out _).mono ?_; rintro e w' ⟨rfl, d, rfl⟩)
        go_ret
        exact ⟨rfl, lay_ex _ _⟩

theorem instE_0 {t : TrkV} {ms : Int} : instE t ms = 0 ↔ trkB t = true ∧ 0 ≤ ms ∧ ms ≤ 86400000 := by
  unfold instE; split
  · rename_i h; split
    · rename_i h2; exact ⟨fun _ => ⟨h, h2⟩, fun _ => rfl⟩
    · rename_i h2; exact ⟨fun e => absurd e (by decide), fun e => absurd e.2 h2⟩
  · rename_i h; exact ⟨fun e => absurd e (by decide), fun e => absurd e.1 h⟩
theorem in_nth {l : List Int} {lo hi : Int} (h : inLB l lo hi = true) (h0 : lo ≤ 0) (h1 : 0 ≤ hi) (i : Nat) : lo ≤ nth l i ∧ nth l i ≤ hi := by
  have h := inLB_iff.1 h
  by_cases hi' : i < l.length
  · exact h i hi'
  · have : nth l i = 0 := by unfold nth; simp [List.getD, List.getElem?_eq_none (Nat.le_of_not_lt hi')]
    rw [this]; exact ⟨h0, h1⟩
theorem gd_of {t : TrkV} (h : trkB t = true) : GD t where
  lg := (trkB_iff.1 h).lg
  ld := (trkB_iff.1 h).ld
  bg := fun i => by have := in_nth (trkB_iff.1 h).bg (by decide) (by decide) i; omega
  bd := fun i => in_nth (trkB_iff.1 h).bd (by decide) (by decide) i
  r0 := (in_nth (trkB_iff.1 h).br (by decide) (by decide) 0).1
  r1 := (in_nth (trkB_iff.1 h).br (by decide) (by decide) 0).2

theorem inc_During_ok (v : Value) (t : TrkV) (lo hi : Int) (w : World) (hv : Trk w v t) (he : instE t lo = 0) (he2 : instE t hi = 0) (hle : lo ≤ hi) :
    Calls Tryz.prog 129 #[v, .int .i64 lo, .int .i64 hi] w fun e w' => e = .returned (.tuple #[(.agg #[.int .i64 (turnLo (ghaO t lo hi).1 (ghaO t lo hi).2), .int .i64 (turnHi (ghaO t lo hi).1 (ghaO t lo hi).2)]), (.agg #[.int .i64 (mx (decO t lo hi).1 (-5400000)), .int .i64 (mn (decO t lo hi).2 5400000)]), .int .i64 0]) ∧ ∃ d, w' = bw w d := by
  obtain ⟨vg, vd, hvv, -⟩ := id hv
  subst hvv
  obtain ⟨hB, m0, m1⟩ := instE_0.1 he
  obtain ⟨-, n0, n1⟩ := instE_0.1 he2
  have HV := Lib.hid (fun L => inc_instant _ t lo (lay w L) (hv.lay L))
  have HV2 := Lib.hid (fun L => inc_instant _ t hi (lay w L) (hv.lay L))
  have HG := Lib.hid (fun L => inc_gha _ t lo hi (lay w L) (hv.lay L) (gd_of hB) m0 m1 n0 n1)
  have HD := Lib.hid (fun L => inc_dec _ t lo hi (lay w L) (hv.lay L) (gd_of hB) m0 m1 n0 n1)
  rw [he] at HV
  rw [he2] at HV2
  clear hv hB he he2
  refine lay_start ?_
  go_enter Tryz.func129, Tryz.ntmps129
  go_wp2_with (first | (go_at_call_of 169 (Value.int .i64 lo); refine (HV.out _).mono ?_; rintro e w' ⟨rfl, d, rfl⟩) | (go_at_call 169; refine (HV2.out _).mono ?_; rintro e w' ⟨rfl, d, rfl⟩) | (go_at_call 170; refine (HG.out _).mono ?_; rintro e w' ⟨rfl, d, rfl⟩) | (go_at_call 171; refine (HD.out _).mono ?_; rintro e w' ⟨rfl, d, rfl⟩))
  go_region
  all_goals (
    obtain ⟨e1, he1⟩ := lay_drew w _
    rw [he1]
    clear he1
    go_wp2
    exact bodyPost_ret (v := .tuple #[(.agg #[.int .i64 (turnLo (ghaO t lo hi).1 (ghaO t lo hi).2), .int .i64 (turnHi (ghaO t lo hi).1 (ghaO t lo hi).2)]), (.agg #[.int .i64 (mx (decO t lo hi).1 (-5400000)), .int .i64 (mn (decO t lo hi).2 5400000)]), .int .i64 0]) (by simp [results, Tryz.results129, go_sem]) rfl ⟨rfl, lay_ex _ _⟩)
end Go.Proofs.YtjfpgpipbooilaaGreat
/- angle.Signed. -/
namespace Go.Proofs.YtjfpgpipbooilaaGreat
open Go.RowKit

def sgnI (n : Int) : Int := if n % 21600000 < 10800000 then n % 21600000 else n % 21600000 - 21600000
set_option maxHeartbeats 400000 in
theorem angle_Sgn (n : Int) (w : World) :
    Calls Tryz.prog 131 #[.int .i64 n] w fun e w' => e = .returned (.int .i64 (sgnI n)) ∧ w' = w := by
  have hb : 0 ≤ n % 21600000 ∧ n % 21600000 < 21600000 := by omega
  go_enter Tryz.func131, Tryz.ntmps131
  go_wp2_with (go_at_call 76; refine (angle_Wrap _ _).mono ?_; rintro e w' ⟨rfl, rfl⟩)
  all_goals go_ret
  all_goals exact ⟨ret_int (by unfold sgnI; omega), rfl⟩
end Go.Proofs.YtjfpgpipbooilaaGreat
/- Where a body is: the plain law (values). -/
namespace Go.Proofs.YtjfpgpipbooilaaGreat
open Go.RowKit Go.Shelf

structure GeoV where
  a : Int
  b : Int
  c : Int
  d : Int
  e : Int
  f : Int
  g : Int
  h : Int
def gv (G : GeoV) : Value := (.agg #[.int .i64 (G.a), .int .i64 (G.b), .int .i64 (G.c), .int .i64 (G.d), .int .i64 (G.e), .int .i64 (G.f), .int .i64 (G.g), .int .i64 (G.h)])
def g0 : GeoV := ⟨0, 0, 0, 0, 0, 0, 0, 0⟩
def szL (n : Int) : Int := mx 0 (100 * n - 50)
def szH (n : Int) : Int := mx 0 (100 * n + 50)
def spanV (t : TrkV) (lo hi : Int) : GeoV :=
  ⟨turnLo (ghaO t lo hi).1 (ghaO t lo hi).2, turnHi (ghaO t lo hi).1 (ghaO t lo hi).2, mx (decO t lo hi).1 (-5400000), mn (decO t lo hi).2 5400000, szL t.p, szH t.p, szL t.q, szH t.q⟩
def hulL (a c : Int) : Int := mn a (a + sgnI (c - a))
def hulH (a b c d : Int) : Int := mx b (a + sgnI (c - a) + d - c)
def joinV (x y : GeoV) : GeoV :=
  ⟨turnLo (hulL x.a y.a) (hulH x.a x.b y.a y.b), turnHi (hulL x.a y.a) (hulH x.a x.b y.a y.b), mn x.c y.c, mx x.d y.d, mn x.e y.e, mx x.f y.f, mn x.g y.g, mx x.h y.h⟩
def pgIs (n : Int) (p : PgV) : Bool := decide (numI p.y p.m p.d = n)
def pgAt (lp : List PgV) (n : Int) : Int := idxR (pgIs n) lp 0
def trkAt (lp : List PgV) (s : ByteArray) (n : Int) : Option TrkV := (lp.find? (pgIs n)).bind fun p => p.ts.find? fun t => nmB t.s s
def bodyR (lp : List PgV) (s : ByteArray) (a b : Int) : GeoV × Int :=
  match trkAt lp s (a / 86400000) with
  | none => (g0, 20)
  | some t =>
    if a / 86400000 = b / 86400000 then (spanV t (a - a / 86400000 * 86400000) (b - a / 86400000 * 86400000), 0)
    else match trkAt lp s (b / 86400000) with
      | none => (g0, 20)
      | some u => (joinV (spanV t (a - a / 86400000 * 86400000) 86400000) (spanV u 0 (b - b / 86400000 * 86400000)), 0)
noncomputable def knownB (lp : List PgV) (ls : List StarV) (s : ByteArray) : Bool := isA s || decide (0 ≤ fndS ls s) || Lib.containsS (tkL lp) s
noncomputable def whR (lp : List PgV) (ls : List StarV) (s : ByteArray) (a b : Int) : GeoV × Int :=
  if timB a b = false then (g0, 1)
  else if knownB lp ls s = false then (g0, 9)
  else if 86400000 ≤ b - a then (g0, 24)
  else if isA s = true then (⟨agL a b, agH a b, 0, 0, 0, 0, 0, 0⟩, 0)
  else match ls.find? (fun x => nmB x.s s) with
    | some x => (⟨sgL a b x.sha, sgH a b x.sha, dcL x.dec, dcH x.dec, 0, 0, 0, 0⟩, 0)
    | none => bodyR lp s a b
theorem idxR_two {α : Type} (p : α → Bool) : ∀ (l : List α) (k : Nat), (idxR p l k = -1 ∧ l.find? p = none) ∨ ∃ i x, idxR p l k = ((k + i : Nat) : Int) ∧ l[i]? = some x ∧ l.find? p = some x ∧ p x = true
  | [], k => .inl ⟨rfl, rfl⟩
  | y :: l, k => by
    unfold idxR
    cases hy : p y
    · rw [if_neg (by decide), List.find?_cons, hy]
      rcases idxR_two p l (k + 1) with ⟨h1, h2⟩ | ⟨i, x, h1, h2, h3, h4⟩
      · exact .inl ⟨h1, h2⟩
      · exact .inr ⟨i + 1, x, by rw [h1]; congr 1; omega, by rw [List.getElem?_cons_succ]; exact h2, h3, h4⟩
    · rw [if_pos rfl, List.find?_cons, hy]
      exact .inr ⟨0, y, rfl, rfl, rfl, hy⟩
theorem idxR_cases {α : Type} (p : α → Bool) (l : List α) : (idxR p l 0 = -1 ∧ l.find? p = none) ∨ ∃ (i : Nat) (x : α), idxR p l 0 = (i : Int) ∧ l[i]? = some x ∧ l.find? p = some x ∧ p x = true := by
  rcases idxR_two p l 0 with h | ⟨i, x, h1, h2⟩
  · exact .inl h
  · exact .inr ⟨i, x, by rw [h1, Nat.zero_add], h2⟩
inductive WhW (lp : List PgV) (ls : List StarV) (s : ByteArray) (a b : Int) : Prop
  | bad : timB a b = false → WhW lp ls s a b
  | name : timB a b = true → knownB lp ls s = false → WhW lp ls s a b
  | wide : timB a b = true → knownB lp ls s = true → 86400000 ≤ b - a → WhW lp ls s a b
  | aries : timB a b = true → b - a < 86400000 → isA s = true → WhW lp ls s a b
  | star (i : Nat) (x : StarV) : timB a b = true → b - a < 86400000 → isA s = false → fndS ls s = (i : Int) → ls[i]? = some x → ls.find? (fun x => nmB x.s s) = some x → WhW lp ls s a b
  | body : timB a b = true → b - a < 86400000 → isA s = false → fndS ls s = -1 → ls.find? (fun x => nmB x.s s) = none → Lib.containsS (tkL lp) s = true → WhW lp ls s a b
theorem whW (lp : List PgV) (ls : List StarV) (s : ByteArray) (a b : Int) : WhW lp ls s a b := by
  cases h1 : timB a b
  · exact .bad h1
  · cases h2 : knownB lp ls s
    · exact .name h1 h2
    · rcases Int.lt_or_le (b - a) 86400000 with h3 | h3
      · cases h4 : isA s
        · rcases idxR_cases (fun x : StarV => nmB x.s s) ls with ⟨h5, h6⟩ | ⟨i, x, h5, h6, h7, h8⟩
          · refine .body h1 h3 h4 h5 h6 ?_
            unfold knownB at h2
            rw [h4, show fndS ls s = -1 from h5] at h2
            simpa using h2
          · exact .star i x h1 h3 h4 h5 h6 h7
        · exact .aries h1 h3 h4
      · exact .wide h1 h2 h3
variable {lp : List PgV} {ls : List StarV} {s : ByteArray} {a b : Int}
theorem whR_bad (h : timB a b = false) : whR lp ls s a b = (g0, 1) := by unfold whR; rw [if_pos h]
theorem whR_name (h : timB a b = true) (k : knownB lp ls s = false) : whR lp ls s a b = (g0, 9) := by unfold whR; rw [if_neg (by rw [h]; decide), if_pos k]
theorem whR_wide (h : timB a b = true) (k : knownB lp ls s = true) (d : 86400000 ≤ b - a) : whR lp ls s a b = (g0, 24) := by
  unfold whR; rw [if_neg (by rw [h]; decide), if_neg (by rw [k]; decide), if_pos d]
theorem known_aries (h : isA s = true) : knownB lp ls s = true := by unfold knownB; rw [h]; simp
theorem known_star {i : Nat} (h : fndS ls s = (i : Int)) : knownB lp ls s = true := by unfold knownB; rw [h, decide_eq_true (by omega)]; simp
theorem known_body (h : Lib.containsS (tkL lp) s = true) : knownB lp ls s = true := by unfold knownB; rw [h]; simp
theorem whR_aries (h : timB a b = true) (d : b - a < 86400000) (k : isA s = true) : whR lp ls s a b = (⟨agL a b, agH a b, 0, 0, 0, 0, 0, 0⟩, 0) := by
  unfold whR; rw [if_neg (by rw [h]; decide), if_neg (by rw [known_aries k]; decide), if_neg (by omega), if_pos k]
theorem whR_star {i : Nat} {x : StarV} (h : timB a b = true) (d : b - a < 86400000) (k : isA s = false) (f : fndS ls s = (i : Int)) (g : ls.find? (fun x => nmB x.s s) = some x) :
    whR lp ls s a b = (⟨sgL a b x.sha, sgH a b x.sha, dcL x.dec, dcH x.dec, 0, 0, 0, 0⟩, 0) := by
  unfold whR; rw [if_neg (by rw [h]; decide), if_neg (by rw [known_star f]; decide), if_neg (by omega), if_neg (by rw [k]; decide), g]
theorem whR_body (h : timB a b = true) (d : b - a < 86400000) (k : isA s = false) (g : ls.find? (fun x => nmB x.s s) = none) (c : Lib.containsS (tkL lp) s = true) : whR lp ls s a b = bodyR lp s a b := by
  unfold whR; rw [if_neg (by rw [h]; decide), if_neg (by rw [known_body c]; decide), if_neg (by omega), if_neg (by rw [k]; decide), g]
theorem ordK_lt {lp : List PgV} (h : OrdK lp lp.length) : ∀ (i j : Nat) p q, i < j → lp[i]? = some p → lp[j]? = some q → numI p.y p.m p.d < numI q.y q.m q.d := by
  intro i j
  induction j with
  | zero => intro p q hij; omega
  | succ j ih =>
    intro p q hij hp hq
    have hj : j + 1 < lp.length := (List.getElem?_eq_some_iff.1 hq).1
    obtain ⟨r, hr⟩ : ∃ r, lp[j]? = some r := ⟨_, List.getElem?_eq_getElem (by omega)⟩
    have h2 := h j r q hj hr hq
    by_cases e : i = j
    · subst e; rw [hp] at hr; cases hr; exact h2
    · have := ih p r (by omega) hp hr; omega
theorem dys_sorted {lp : List PgV} (h : OrdK lp lp.length) : (dysL lp).Pairwise (· ≤ ·) := by
  rw [List.pairwise_iff_getElem]
  intro i j hi hj hij
  unfold dysL at hi hj ⊢
  rw [List.length_map] at hi hj
  rw [List.getElem_map, List.getElem_map]
  exact Int.le_of_lt (ordK_lt h i j _ _ hij (List.getElem?_eq_getElem hi) (List.getElem?_eq_getElem hj))
theorem dys_count : ∀ {lp : List PgV} {n : Int} {i : Nat} {p : PgV}, (∀ (i j : Nat) p q, i < j → lp[i]? = some p → lp[j]? = some q → numI p.y p.m p.d < numI q.y q.m q.d) → lp[i]? = some p → numI p.y p.m p.d = n → (dysL lp).countP (· < n) = i
  | [], _, _, _, _, hp, _ => by simp at hp
  | y :: l, n, 0, p, h, hp, hn => by
    simp only [List.getElem?_cons_zero, Option.some.injEq] at hp
    subst hp
    show List.countP _ (numI y.y y.m y.d :: dysL l) = 0
    rw [List.countP_eq_zero]
    intro z hz
    rcases List.mem_cons.1 hz with rfl | hz
    · simp; omega
    · unfold dysL at hz
      obtain ⟨q, hq, rfl⟩ := List.mem_map.1 hz
      obtain ⟨j, hj⟩ := List.mem_iff_getElem?.1 hq
      have := h 0 (j + 1) y q (by omega) rfl (by rw [List.getElem?_cons_succ]; exact hj)
      simp; omega
  | y :: l, n, i + 1, p, h, hp, hn => by
    rw [List.getElem?_cons_succ] at hp
    have h1 := h 0 (i + 1) y p (by omega) rfl (by rw [List.getElem?_cons_succ]; exact hp)
    have ih := dys_count (lp := l) (n := n) (i := i) (p := p) (fun a b c d e f g => h (a + 1) (b + 1) c d (by omega) (by rw [List.getElem?_cons_succ]; exact f) (by rw [List.getElem?_cons_succ]; exact g)) hp hn
    show List.countP _ (numI y.y y.m y.d :: dysL l) = i + 1
    rw [List.countP_cons, ih, if_pos (by simp; omega)]
theorem dys_has {lp : List PgV} {n : Int} : (dysL lp).contains n = decide (0 ≤ pgAt lp n) := by
  unfold pgAt
  rw [idxR_any, Bool.eq_iff_iff, List.contains_iff_mem, List.any_eq_true]
  unfold dysL
  rw [List.mem_map]
  constructor
  · rintro ⟨p, hp, h⟩; exact ⟨p, hp, decide_eq_true h⟩
  · rintro ⟨p, hp, h⟩; exact ⟨p, hp, of_decide_eq_true h⟩
end Go.Proofs.YtjfpgpipbooilaaGreat
/- Days, the page of a day, the track of a body on a day: the program's and the reference's. -/
namespace Go.Proofs.YtjfpgpipbooilaaGreat
set_option maxHeartbeats 2000000
open Go.RowKit Go.Shelf

theorem alm_day (a : Int) (w : World) (h1 : -9223372036854775807 ≤ a) (h2 : a ≤ 9223372036854775807) :
    Calls Tryz.prog 84 #[.int .i64 a] w fun e w' => e = .returned (.int .i64 (a / 86400000)) ∧ w' = w := by
  have hb : (1 : Int) ≤ 86400000 := by decide
  go_enter Tryz.func84, Tryz.ntmps84
  go_wp2
  · go_ret
    refine ⟨ret_int ?_, rfl⟩
    rw [IntWalk.wrap64_in]
    · exact floor_neg hb ‹_›
    · rw [floor_neg hb ‹_›]; have := ediv_bd hb 9223372036854775807 (by decide) h1 h2; omega
  · go_ret
    exact ⟨ret_int (floor_pos hb ‹_›), rfl⟩
def PgPost (P : Nat → Prop) (w0 w : World) (p : Option PgV) (e : Ending) (w' : World) : Prop :=
  match p with
  | none => e = .returned (.tuple #[.agg #[.int .i64 0, .int .i64 0, .int .i64 0, .slice none 0 0], .bool false]) ∧ ∃ d, w' = bw w d
  | some p => ∃ x : PgW, e = .returned (.tuple #[.agg #[.int .i64 x.y, .int .i64 x.m, .int .i64 x.d, .slice x.ta x.tn x.tc], .bool true]) ∧ PgD P w0 x p ∧ ∃ d, w' = bw w d
structure BkL (P : Nat → Prop) (w : World) (bk : Nat) (vd vp vs : Value) (lp : List PgV) : Prop where
  bk : Bk w bk vd vp vs
  days : Sl w vd (dysL lp)
  pgs : PgsD P w vp lp
  ord : OrdK lp lp.length
  ok : ∀ p ∈ lp, PgOk p
  few : lp.length ≤ 40
theorem BkL.lay {P : Nat → Prop} {w : World} {bk : Nat} {vd vp vs : Value} {lp : List PgV} (h : BkL P w bk vd vp vs lp) (L : List (Obj ⊕ Ext)) : BkL P (lay w L) bk vd vp vs lp :=
  ⟨h.bk.lay L, h.days.lay L, h.pgs.lay L, h.ord, h.ok, h.few⟩
theorem drewN_lay (w : World) (L : List (Obj ⊕ Ext)) (n : Nat) : ∃ d, (lay w L).drewN n = lay w (.inr d :: L) := by
  refine ⟨⟨#[], ((lay w L).drewN n).drawn⟩, ?_⟩
  show (lay w L).drewN n = bw (lay w L) ⟨#[], ((lay w L).drewN n).drawn⟩
  induction n with
  | zero => exact (bw_noExt _).symm
  | succ n ih => simp [World.drewN, Go.Proofs.YtjfpgpipbooilaaGreat.bw]
set_option maxRecDepth 100000 in
theorem alm_page {P : Nat → Prop} (bk : Nat) (vd vp vs : Value) (lp : List PgV) (n : Int) (w0 w : World) (hE : Below w0.heap.size w0 w) (hB : BkL P w0 bk vd vp vs lp) :
    Calls Tryz.prog 127 #[.pointer (some ⟨bk, 0, none⟩), .int .i64 n] w (PgPost P w0 w (lp.find? (pgIs n))) := by
  obtain ⟨⟨k0, k1, k2, k3⟩, hD, hP, hO, hok, hfew⟩ := hB
  replace k1 : w.cell? ⟨bk, 0, none⟩ = some vd := (hE.cell (p := ⟨bk, 0, none⟩) k0).trans k1
  replace k2 : w.cell? ⟨bk, 1, none⟩ = some vp := (hE.cell (p := ⟨bk, 1, none⟩) k0).trans k2
  clear k3
  replace k0 : bk < w.heap.size := Nat.lt_of_lt_of_le k0 hE.size
  replace hD := hD.ext hE
  have hdl : (dysL lp).length = lp.length := by unfold dysL; rw [List.length_map]
  by_cases hz : lp = []
  · subst hz
    obtain ⟨a, c, hvd, -⟩ := hD
    cases hvd
    refine lay_start ?_
    go_enter Tryz.func127, Tryz.ntmps127
    go_wp2_with (go_at_call 168; refine (Tryz.slices_BinarySearch_int_empty _ _ _ _).mono ?_; rintro e w' ⟨rfl, rfl⟩)
    exact bodyPost_ret (v := .tuple #[.agg #[.int .i64 0, .int .i64 0, .int .i64 0, .slice none 0 0], .bool false]) (by simp [results, Tryz.results127, go_sem]) rfl ⟨rfl, lay_ex _ _⟩
  · have hlp : 0 < lp.length := List.length_pos_iff.2 hz
    obtain ⟨a, c, hvd, hcap, _, hd3⟩ := hD
    obtain ⟨bd, od, rfl, hbd, hcell⟩ := hd3 (by intro h; rw [h] at hdl; simp at hdl; omega)
    rw [hdl] at hvd
    subst hvd
    have HC : Hid (∀ L j, j < (dysL lp).length → (lay w L).cell? ⟨bd, od + j, none⟩ = some (.int .i64 ((dysL lp).getD j 0))) := Lib.hid (fun L j hj => (lay_old w L (od + j) bd hbd).trans (hcell j hj))
    have HSo := Lib.hid (dys_sorted hO)
    obtain ⟨q, hq⟩ : ∃ q, lp.length = q := ⟨_, rfl⟩
    have HQ := Lib.hid hq
    have HDl : Hid ((dysL lp).length = q) := Lib.hid (hdl.trans hq)
    have HTk : Hid ((dysL lp).take q = dysL lp) := Lib.hid (List.take_of_length_le (by rw [hdl, hq]; exact Nat.le_refl _))
    have HBS := Lib.hid (fun L => Tryz.slices_BinarySearch_int bd od q c (dysL lp) n (lay w L) (by rw [HDl.out]; exact Nat.le_refl _) (by omega) (HC.out L) (by rw [HTk.out]; exact HSo.out))
    rw [HTk.out] at HBS
    have hway := idxR_cases (pgIs n) lp
    have hcont := dys_has (lp := lp) (n := n)
    obtain ⟨bp, op, cp, hvp, hcc, hbp0, hPb, hr⟩ := hP.open hlp
    subst hvp
    have hbp : bp < w.heap.size := Nat.lt_of_lt_of_le hbp0 hE.size
    rw [hq] at hfew k1 k2 hcc
    unfold pgAt at hcont
    rcases hway with ⟨h1, h2⟩ | ⟨i, p, h1, h2, h3, h4⟩
    · rw [h1] at hcont
      rw [hcont] at HBS
      rw [h2]
      have t1 : decide ((0 : Int) ≤ -1) = false := by decide
      rw [t1] at HBS
      unfold PgPost
      generalize (List.countP (fun x => decide (x < n)) (dysL lp)) = cnt at *
      clear hcont hr h1 h2 hcell hlp hz hdl hok hO hq hcap t1 hE hbp0
      refine lay_start ?_
      go_enter Tryz.func127, Tryz.ntmps127
      go_wp2_with fail
      refine (HBS.out _).mono ?_
      rintro e w' ⟨rfl, dn, rfl⟩
      obtain ⟨d1, hd1⟩ := drewN_lay w [.inl (.cells #[.int .i64 0, .int .i64 0, .int .i64 0, .slice none 0 0] 112 (0, 0))] dn
      rw [hd1]
      go_wp2_with fail
      exact bodyPost_ret (v := .tuple #[.agg #[.int .i64 0, .int .i64 0, .int .i64 0, .slice none 0 0], .bool false]) (by simp [results, Tryz.results127, go_sem]) rfl ⟨rfl, lay_ex _ _⟩
    · rw [h1, decide_eq_true (by omega)] at hcont
      have hcnt : List.countP (fun x => decide (x < n)) (dysL lp) = i := dys_count (ordK_lt hO) h2 (of_decide_eq_true h4)
      rw [hcont, hcnt] at HBS
      rw [h3]
      have hi : i < q := by rw [← hq]; exact (List.getElem?_eq_some_iff.1 h2).1
      obtain ⟨x, hw, hD2, c0, c1, c2, c3⟩ := hr i p h2
      have HD2 := Lib.hid hD2
      replace c0 := (hE.cell (p := ⟨bp, op + i * 4, none⟩) hbp0).trans c0
      replace c1 := (hE.cell (p := ⟨bp, op + i * 4 + 1, none⟩) hbp0).trans c1
      replace c2 := (hE.cell (p := ⟨bp, op + i * 4 + 2, none⟩) hbp0).trans c2
      replace c3 := (hE.cell (p := ⟨bp, op + i * 4 + 3, none⟩) hbp0).trans c3
      have x1 : (i : Int) < (q : Int) := by omega
      have x0 : (0 : Int) ≤ (i : Int) := by omega
      unfold PgPost
      clear hcont hr h1 h2 hcell hlp hz hdl hok hO hq hcap hD2 hw hcnt hE hbp0
      obtain ⟨xy, xm, xd, xa, xn, xc⟩ := x
      dsimp only at c0 c1 c2 c3
      refine lay_start ?_
      go_enter Tryz.func127, Tryz.ntmps127
      go_wp2_with fail
      refine (HBS.out _).mono ?_
      rintro e w' ⟨rfl, dn, rfl⟩
      obtain ⟨d1, hd1⟩ := drewN_lay w [.inl (.cells #[.int .i64 0, .int .i64 0, .int .i64 0, .slice none 0 0] 112 (0, 0))] dn
      rw [hd1]
      go_wp2_with fail
      exact bodyPost_ret (v := .tuple #[.agg #[.int .i64 xy, .int .i64 xm, .int .i64 xd, .slice xa xn xc], .bool true]) (by simp [results, Tryz.results127, go_sem]) rfl ⟨⟨xy, xm, xd, xa, xn, xc⟩, rfl, HD2.out, lay_ex _ _⟩
end Go.Proofs.YtjfpgpipbooilaaGreat
/- The reference's lists: Unwrapped, Declinations. -/
namespace Go.Proofs.YtjfpgpipbooilaaGreat
open Go.RowKit

end Go.Proofs.YtjfpgpipbooilaaGreat
/- The reference of layer 14: the arc at an instant. -/
namespace Go.Proofs.YtjfpgpipbooilaaGreat
open Go.RowKit

structure Row (w : World) (g : Nat) (f : Nat → Int) : Prop where
  lt : g < w.heap.size
  cell : ∀ k, k < 25 → w.cell? ⟨g, k, none⟩ = some (.int .i64 (f k))
  bd : ∀ i, i ≤ 24 → -1000000000000 ≤ f i ∧ f i ≤ 1000000000000
theorem Row.lay {w : World} {g : Nat} {f : Nat → Int} (h : Row w g f) (L : List (Obj ⊕ Ext)) : Row (lay w L) g f :=
  ⟨Nat.lt_of_lt_of_le h.lt (lay_extends w L).size, fun k hk => ((lay_extends w L).cell (p := ⟨g, k, none⟩) h.lt).trans (h.cell k hk), h.bd⟩
end Go.Proofs.YtjfpgpipbooilaaGreat

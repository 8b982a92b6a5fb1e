/- Contracts and plain laws, several texts in one: HzO; HzC; HzD; HzE; HzF; HzG -/
import Derived.Test.YtnnmfdeeicpdlaaGreatProg
import Derived.WalkKit
import Derived.WalkSpells
import Derived.WalkLawsBesides
import Derived.Lib.Hide
import Derived.BigQuiet
import Derived.Laws.MakeOwn
import Derived.Laws.Entries
import Derived.Test.YtnnmfdeeicpdlaaGreatSAA
import Derived.Test.YtnnmfdeeicpdlaaGreatSAJ
import Derived.Test.YtnnmfdeeicpdlaaGreatSAN
import Derived.Test.YtnnmfdeeicpdlaaGreatSBA
/- HorizonOrder: the plain law. -/
namespace Go.Proofs.YtnnmfdeeicpdlaaGreat
open Go.RowKit Go.Shelf

variable {lp : List PgV} {ls : List StarV} {s : ByteArray}
end Go.Proofs.YtnnmfdeeicpdlaaGreat
/- Crossings: the plain law. -/
namespace Go.Proofs.YtnnmfdeeicpdlaaGreat
open Go.RowKit Go.Shelf

def lstR (S : Int → Int) (s lo hi : Int) : Int :=
  if 1 < hi - lo then (if S ((lo + hi) / 2) = s then lstR S s ((lo + hi) / 2) hi else lstR S s lo ((lo + hi) / 2)) else lo
  termination_by (hi - lo).toNat
  decreasing_by all_goals omega
def fstR (S : Int → Int) (s lo hi : Int) : Int :=
  if 1 < hi - lo then (if S ((lo + hi) / 2) = s then fstR S s lo ((lo + hi) / 2) else fstR S s ((lo + hi) / 2) hi) else hi
  termination_by (hi - lo).toNat
  decreasing_by all_goals omega
theorem lst_end {S : Int → Int} {s lo hi : Int} (h : ¬ 1 < hi - lo) : lstR S s lo hi = lo := by rw [lstR, if_neg h]
theorem lst_yes {S : Int → Int} {s lo hi : Int} (h : 1 < hi - lo) (k : S ((lo + hi) / 2) = s) : lstR S s lo hi = lstR S s ((lo + hi) / 2) hi := by rw [lstR, if_pos h, if_pos k]
theorem lst_no {S : Int → Int} {s lo hi : Int} (h : 1 < hi - lo) (k : ¬ S ((lo + hi) / 2) = s) : lstR S s lo hi = lstR S s lo ((lo + hi) / 2) := by rw [lstR, if_pos h, if_neg k]
theorem fst_end {S : Int → Int} {s lo hi : Int} (h : ¬ 1 < hi - lo) : fstR S s lo hi = hi := by rw [fstR, if_neg h]
theorem fst_yes {S : Int → Int} {s lo hi : Int} (h : 1 < hi - lo) (k : S ((lo + hi) / 2) = s) : fstR S s lo hi = fstR S s lo ((lo + hi) / 2) := by rw [fstR, if_pos h, if_pos k]
theorem fst_no {S : Int → Int} {s lo hi : Int} (h : 1 < hi - lo) (k : ¬ S ((lo + hi) / 2) = s) : fstR S s lo hi = fstR S s ((lo + hi) / 2) hi := by rw [fstR, if_pos h, if_neg k]
theorem lst_is (S : Int → Int) (s : Int) : ∀ (n : Nat) (lo hi : Int), (hi - lo).toNat ≤ n → lo < hi → S lo = s → S (lstR S s lo hi) = s ∧ lo ≤ lstR S s lo hi ∧ lstR S s lo hi < hi
  | 0, lo, hi, hn, h, _ => by omega
  | n + 1, lo, hi, hn, h, hs => by
    by_cases c : 1 < hi - lo
    · by_cases k : S ((lo + hi) / 2) = s
      · rw [lst_yes c k]
        have := lst_is S s n ((lo + hi) / 2) hi (by omega) (by omega) k
        exact ⟨this.1, by omega, this.2.2⟩
      · rw [lst_no c k]
        have := lst_is S s n lo ((lo + hi) / 2) (by omega) (by omega) hs
        exact ⟨this.1, this.2.1, by omega⟩
    · rw [lst_end c]; exact ⟨hs, Int.le_refl _, h⟩
theorem fst_is (S : Int → Int) (s : Int) : ∀ (n : Nat) (lo hi : Int), (hi - lo).toNat ≤ n → lo < hi → S hi = s → S (fstR S s lo hi) = s ∧ lo < fstR S s lo hi ∧ fstR S s lo hi ≤ hi
  | 0, lo, hi, hn, h, _ => by omega
  | n + 1, lo, hi, hn, h, hs => by
    by_cases c : 1 < hi - lo
    · by_cases k : S ((lo + hi) / 2) = s
      · rw [fst_yes c k]
        have := fst_is S s n lo ((lo + hi) / 2) (by omega) (by omega) k
        exact ⟨this.1, this.2.1, by omega⟩
      · rw [fst_no c k]
        have := fst_is S s n ((lo + hi) / 2) hi (by omega) (by omega) hs
        exact ⟨this.1, by omega, this.2.2⟩
    · rw [fst_end c]; exact ⟨hs, h, Int.le_refl _⟩
theorem lst_fst (S : Int → Int) {p q : Int} (hpq : p ≠ q) : ∀ (n : Nat) (lo hi : Int), (hi - lo).toNat ≤ n → lo < hi → S lo = p → S hi = q → lstR S p lo hi < fstR S q lo hi
  | 0, lo, hi, hn, h, _, _ => by omega
  | n + 1, lo, hi, hn, h, hp, hq => by
    by_cases c : 1 < hi - lo
    · by_cases k : S ((lo + hi) / 2) = p
      · rw [lst_yes c k, fst_no c (by rw [k]; exact hpq)]
        exact lst_fst S hpq n _ _ (by omega) (by omega) k hq
      · by_cases k2 : S ((lo + hi) / 2) = q
        · rw [lst_no c k, fst_yes c k2]
          exact lst_fst S hpq n _ _ (by omega) (by omega) hp k2
        · rw [lst_no c k, fst_no c k2]
          have a := lst_is S p n lo ((lo + hi) / 2) (by omega) (by omega) hp
          have b := fst_is S q n ((lo + hi) / 2) hi (by omega) (by omega) hq
          omega
    · rw [lst_end c, fst_end c]; exact h
structure CrV where
  lo : Int
  hi : Int
  up : Bool
def smp (f t : Int) : List Int := if f < t then f :: smp (f + 1200000) t else [t]
  termination_by (t - f).toNat
  decreasing_by omega
theorem smp_lt {f t : Int} (h : f < t) : smp f t = f :: smp (f + 1200000) t := by rw [smp, if_pos h]
theorem smp_end {f t : Int} (h : ¬ f < t) : smp f t = [t] := by rw [smp, if_neg h]
def crF (S : Int → Int) : List Int → Int → Int → List CrV
  | [], _, _ => []
  | t :: l, a, k => if S t = 0 then crF S l a k else (if k ≠ 0 ∧ S t ≠ k then [⟨lstR S k a t, fstR S (S t) a t, decide (k < 0)⟩] else []) ++ crF S l t (S t)
theorem cr_zero {S : Int → Int} {t a k : Int} {l : List Int} (h : S t = 0) : crF S (t :: l) a k = crF S l a k := by conv => lhs; unfold crF; rw [if_pos h]
theorem cr_same {S : Int → Int} {t a k : Int} {l : List Int} (h : S t ≠ 0) (g : k = 0 ∨ S t = k) : crF S (t :: l) a k = crF S l t (S t) := by
  conv => lhs; unfold crF
  rw [if_neg h, if_neg (by rcases g with g | g <;> simp [g])]
  rfl
theorem cr_cross {S : Int → Int} {t a k : Int} {l : List Int} (h : S t ≠ 0) (g : k ≠ 0) (g2 : S t ≠ k) : crF S (t :: l) a k = ⟨lstR S k a t, fstR S (S t) a t, decide (k < 0)⟩ :: crF S l t (S t) := by
  conv => lhs; unfold crF
  rw [if_neg h, if_pos ⟨g, g2⟩]
  rfl
def erF (E : Int → Int) : List Int → Int
  | [] => 0
  | t :: l => if E t = 0 then erF E l else E t
end Go.Proofs.YtnnmfdeeicpdlaaGreat
/- The watch: its side at an instant, a crossing between two instants. -/
namespace Go.Proofs.YtnnmfdeeicpdlaaGreat
set_option maxHeartbeats 4000000
set_option maxRecDepth 100000
open Go.RowKit Go.Shelf

noncomputable def siS (lp : List PgV) (ls : List StarV) (s : ByteArray) (u x h t : Int) : Int := sdI (hzL lp ls s t t u u x x) (hzH lp ls s t t u u x x) h
noncomputable def siE (lp : List PgV) (ls : List StarV) (s : ByteArray) (x t : Int) : Int := lhaE lp ls s t t x x
def CRW (c : CrV) : Value := .agg #[.int .i64 c.lo, .int .i64 c.hi, .bool c.up]
theorem sdI_in (a b n : Int) : sdI a b n = -1 ∨ sdI a b n = 0 ∨ sdI a b n = 1 := by unfold sdI; split <;> (try split) <;> simp
theorem hz_wside {w : World} {bk : Nat} {lp : List PgV} {ls : List StarV} {W : World} (h : BkA w bk lp ls W) (k : NewOk lp ls) (s : ByteArray) (u x n t : Int) (hu : latB u u = true) (L : List (Obj ⊕ Ext)) :
    Calls Tryz.prog 167 #[.agg #[.pointer (some ⟨bk, 0, none⟩), .string s, .int .i64 u, .int .i64 u, .int .i64 x, .int .i64 x, .int .i64 n], .int .i64 t] (lay W L) fun e w' => e = .returned (.tuple #[.int .i64 (if siE lp ls s x t = 0 then siS lp ls s u x n t else 0), .int .i64 (siE lp ls s x t)]) ∧ ∃ d, w' = bw (lay W L) d := by
  have HA := Lib.hid (fun L' => made_altitude (h.bw L) k s t t u u x x hu L')
  have HS := Lib.hid (fun W => hz_side (hzL lp ls s t t u u x x) (hzH lp ls s t t u u x x) n W)
  clear h k hu
  unfold siE siS
  generalize hzL lp ls s t t u u x x = p at *
  generalize hzH lp ls s t t u u x x = q at *
  generalize lhaE lp ls s t t x x = E at *
  generalize sdI p q n = D at *
  generalize lay W L = w at *
  by_cases h0 : E = 0
  · subst h0
    rw [if_pos rfl]
    refine lay_start ?_
    go_enter Tryz.func167, Tryz.ntmps167
    go_wp2_with (first | (go_at_call 151; refine (HA.out _).mono ?_; rintro e w' ⟨rfl, d3, rfl⟩; rw [lay_bw]) | (go_at_call 152; refine (HS.out _).mono ?_; rintro e w' ⟨rfl, d4, rfl⟩; rw [lay_bw]))
    exact bodyPost_ret (v := .tuple #[.int .i64 D, .int .i64 0]) (by simp [results, Tryz.results167, go_sem]) rfl ⟨rfl, lay_ex _ _⟩
  · rw [if_neg h0]
    have e1 : (E != 0) = true := by simpa using h0
    have e2 : (E == 0) = false := beq_eq_false_iff_ne.2 h0
    refine lay_start ?_
    go_enter Tryz.func167, Tryz.ntmps167
    go_wp2_with (first | (go_at_call 151; refine (HA.out _).mono ?_; rintro e w' ⟨rfl, d3, rfl⟩; rw [lay_bw]))
    exact bodyPost_ret (v := .tuple #[.int .i64 0, .int .i64 E]) (by simp [results, Tryz.results167, go_sem]) rfl ⟨rfl, lay_ex _ _⟩
def WSide (S E : Int → Int) (bk : Nat) (s : ByteArray) (u x n : Int) (w : World) : Prop :=
  ∀ t L, Calls Tryz.prog 167 #[.agg #[.pointer (some ⟨bk, 0, none⟩), .string s, .int .i64 u, .int .i64 u, .int .i64 x, .int .i64 x, .int .i64 n], .int .i64 t] (lay w L) fun e w' => e = .returned (.tuple #[.int .i64 (if E t = 0 then S t else 0), .int .i64 (E t)]) ∧ ∃ d, w' = bw (lay w L) d
theorem WSide.on {S E : Int → Int} {bk : Nat} {s : ByteArray} {u x n : Int} {w : World} (h : WSide S E bk s u x n w) (L1 : List (Obj ⊕ Ext)) : WSide S E bk s u x n (lay w L1) := by
  intro t L
  rw [← lay_appG]
  exact h t (L ++ L1)
theorem hz_between (S E : Int → Int) (bk : Nat) (s : ByteArray) (u x n a b p q : Int) (w : World) (HS0 : WSide S E bk s u x n w) (hab : a < b) (a0 : -70368744177664 ≤ a) (b0 : b ≤ 70368744177664) (hE : ∀ m, a ≤ m → m ≤ b → E m = 0) :
    Calls Tryz.prog 168 #[.agg #[.pointer (some ⟨bk, 0, none⟩), .string s, .int .i64 u, .int .i64 u, .int .i64 x, .int .i64 x, .int .i64 n], .int .i64 a, .int .i64 b, .int .i64 p, .int .i64 q] w fun e w' => e = .returned (.tuple #[CRW ⟨lstR S p a b, fstR S q a b, decide (p < 0)⟩, .int .i64 0]) ∧ ∃ d, w' = bw w d := by
  have HS := Lib.hid HS0
  clear HS0
  refine lay_start ?_
  go_enter Tryz.func168, Tryz.ntmps168
  go_wp2_with fail
  go_loopw [12, 13] (fun v12 v13 wr => ∃ (lo hi : Int) (dd : Ext), a ≤ lo ∧ lo < hi ∧ hi ≤ b ∧ v12 = .int .i64 lo ∧ v13 = .int .i64 hi ∧ wr = lay w (.inr dd :: [.inl (Obj.cells #[.int .i64 0, .int .i64 0, .bool false] 202), .inl (Obj.cells #[.pointer (some ⟨bk, 0, none⟩), .string s, .int .i64 u, .int .i64 u, .int .i64 x, .int .i64 x, .int .i64 n] 128)]) ∧ lstR S p lo hi = lstR S p a b) (fun v12 v13 _ => (intOf v13 - intOf v12).toNat)
  case atStart => exact ⟨a, b, noExt _, Int.le_refl _, hab, Int.le_refl _, rfl, rfl, (bw_noExt _).symm, rfl⟩
  case round =>
    obtain ⟨lo, hi, dd, g0, g1, g2, rfl, rfl, rfl, hR⟩ := hrel
    have k1 : IntKind.i64.wrap (hi - lo) = hi - lo := IntWalk.i64_in _ (by omega)
    by_cases c : 1 < hi - lo
    · obtain ⟨m, hm⟩ : ∃ m, (lo + hi) / 2 = m := ⟨_, rfl⟩
      have hm1 : lo < m ∧ m < hi := by omega
      have k2 : IntKind.i64.wrap (lo + hi) = lo + hi := IntWalk.i64_in _ (by omega)
      have k3 : IntKind.i64.wrap m = m := IntWalk.i64_in _ (by omega)
      have HSm := Lib.hid (HS.out m)
      rw [hE m (by omega) (by omega), if_pos rfl] at HSm
      by_cases d : S m = p
      · rw [lst_yes c (by rw [hm]; exact d), hm] at hR
        rw [d] at HSm
        go_wp2_with (first | (go_at_call 167; refine (HSm.out _).mono ?_; rintro e w' ⟨rfl, d3, rfl⟩; rw [lay_bw]))
        go_roundw
        case rel => exact ⟨m, hi, _, by omega, by omega, g2, rfl, rfl, (lay_fold w [_, _] _).choose_spec, hR⟩
        case measure => simp [intOf]; omega
      · rw [lst_no c (by rw [hm]; exact d), hm] at hR
        have e1 : (S m == p) = false := beq_eq_false_iff_ne.2 d
        generalize S m = D at *
        go_wp2_with (first | (go_at_call 167; refine (HSm.out _).mono ?_; rintro e w' ⟨rfl, d3, rfl⟩; rw [lay_bw]))
        go_roundw
        case rel => exact ⟨lo, m, _, by omega, by omega, by omega, rfl, rfl, (lay_fold w [_, _] _).choose_spec, hR⟩
        case measure => simp [intOf]; omega
    · rw [lst_end c] at hR
      go_wp2_with fail
      go_loopw [12, 13] (fun v12 v13 wr => ∃ (lo2 hi2 : Int) (dd2 : Ext), a ≤ lo2 ∧ lo2 < hi2 ∧ hi2 ≤ b ∧ v12 = .int .i64 lo2 ∧ v13 = .int .i64 hi2 ∧ wr = lay w (.inr dd2 :: [.inl (Obj.cells #[.int .i64 0, .int .i64 0, .bool false] 202), .inl (Obj.cells #[.pointer (some ⟨bk, 0, none⟩), .string s, .int .i64 u, .int .i64 u, .int .i64 x, .int .i64 x, .int .i64 n] 128)]) ∧ fstR S q lo2 hi2 = fstR S q a b) (fun v12 v13 _ => (intOf v13 - intOf v12).toNat)
      case atStart => exact ⟨a, b, _, Int.le_refl _, hab, Int.le_refl _, rfl, rfl, rfl, rfl⟩
      case round =>
        obtain ⟨lo2, hi2, dd2, f0, f1, f2, rfl, rfl, rfl, hR2⟩ := hrel
        have k4 : IntKind.i64.wrap (hi2 - lo2) = hi2 - lo2 := IntWalk.i64_in _ (by omega)
        by_cases c2 : 1 < hi2 - lo2
        · obtain ⟨m, hm⟩ : ∃ m, (lo2 + hi2) / 2 = m := ⟨_, rfl⟩
          have hm1 : lo2 < m ∧ m < hi2 := by omega
          have k5 : IntKind.i64.wrap (lo2 + hi2) = lo2 + hi2 := IntWalk.i64_in _ (by omega)
          have k6 : IntKind.i64.wrap m = m := IntWalk.i64_in _ (by omega)
          have HSm := Lib.hid (HS.out m)
          rw [hE m (by omega) (by omega), if_pos rfl] at HSm
          by_cases d : S m = q
          · rw [fst_yes c2 (by rw [hm]; exact d), hm] at hR2
            rw [d] at HSm
            go_wp2_with (first | (go_at_call 167; refine (HSm.out _).mono ?_; rintro e w' ⟨rfl, d3, rfl⟩; rw [lay_bw]))
            go_roundw
            case rel => exact ⟨lo2, m, _, by omega, by omega, by omega, rfl, rfl, (lay_fold w [_, _] _).choose_spec, hR2⟩
            case measure => simp [intOf]; omega
          · rw [fst_no c2 (by rw [hm]; exact d), hm] at hR2
            have e1 : (S m == q) = false := beq_eq_false_iff_ne.2 d
            generalize S m = D at *
            go_wp2_with (first | (go_at_call 167; refine (HSm.out _).mono ?_; rintro e w' ⟨rfl, d3, rfl⟩; rw [lay_bw]))
            go_roundw
            case rel => exact ⟨m, hi2, _, by omega, by omega, by omega, rfl, rfl, (lay_fold w [_, _] _).choose_spec, hR2⟩
            case measure => simp [intOf]; omega
        · rw [fst_end c2] at hR2
          go_wp2_with fail
          all_goals exact bodyPost_ret (v := .tuple #[CRW ⟨lstR S p a b, fstR S q a b, decide (p < 0)⟩, .int .i64 0]) (by simp [results, Tryz.results168, go_sem, CRW]) rfl ⟨rfl, lay_ex _ _⟩
end Go.Proofs.YtnnmfdeeicpdlaaGreat
/- The watch's crossings between two instants. -/
namespace Go.Proofs.YtnnmfdeeicpdlaaGreat
open Go.RowKit Go.Shelf

def crR : RecT CrV := { E := 202, S := 125, k := 3, bytes := 24, enc := fun c => [.int .i64 c.lo, .int .i64 c.hi, .bool c.up], wf := fun c => (Lit.int .i64 c.lo).wf = true ∧ (Lit.int .i64 c.hi).wf = true }
theorem info_cr : (Tryz.prog.info? 202).map (fun i => (i.zero.map (fun z => z.cells.size), i.size, i.bytes)) = some (some 3, 3, 24) := by kernel_rfl
theorem crOk : RecOk crR where
  len _ := rfl
  one x u hu := by
    simp only [crR, List.mem_cons, List.not_mem_nil, or_false] at hu
    rcases hu with rfl | rfl | rfl <;> rfl
  pos := by decide
  und := Tryz.underlying125
  info := recInfo info_cr
  small := by decide
theorem info_int1 : (Tryz.prog.info? 3).map (fun i => (i.zero.map (fun z => z.cells), i.size, i.bytes)) = some (some #[.int .i64 0], 1, 8) := by kernel_rfl
theorem make_ints {m : Nat} (h2 : m ≤ 10000000) (W : World) :
    (Instr.makeSlice 112 (.int .i64 (m : Int)) (.int .i64 (m : Int))).run Tryz.prog W = .ok (.slice (some ⟨W.heap.size, 0, none⟩) m m) (W.alloc (.cells (madeCells #[.int .i64 0] m) 3)) := by
  have hinf := info_int1
  cases hq : Tryz.prog.info? 3 with
  | none => rw [hq] at hinf; cases hinf
  | some i =>
    rw [hq] at hinf
    simp only [Option.map_some, Option.some.injEq, Prod.mk.injEq] at hinf
    obtain ⟨hz, hs, hb⟩ := hinf
    cases hzz : i.zero with
    | none => rw [hzz] at hz; cases hz
    | some z =>
      rw [hzz] at hz
      simp only [Option.map_some, Option.some.injEq] at hz
      have hr := run_make (P := Tryz.prog) W 112 3 i z Tryz.underlying112 hq hzz .i64 .i64 m m (by omega) (by omega) (by rw [hb]; omega) (by omega)
      simp only [Int.toNat_natCast] at hr
      rw [hr, hs, hz, Nat.mul_one]
theorem ow_mades {w : World} {L : List (Obj ⊕ Ext)} {m : Nat} (h : m ≤ 10000000) : Ow (lay w (.inl (.cells (madeCells #[.int .i64 0] m) 3 (0, 0)) :: L)) (lay w L).heap.size (.slice (some ⟨posn w (shp L), 0, none⟩) m m) (List.replicate m 0) := by
  have hM : maxLen = 9223372036854775807 := by decide
  rw [← lay_size w L]
  have h1 := World.ownsRow_lit (e := 3) (size := 1) (base := (lay w L).heap.size) (lay w L) (madeCells #[.int .i64 0] m) m (Nat.le_refl _) (by omega) (by rw [size_madeCells, Nat.mul_one])
  rw [toList_madeCells_one] at h1
  refine ⟨by rw [List.length_replicate, List.map_replicate]; exact h1, fun i hi => ?_⟩
  rw [List.length_replicate] at hi
  have : nth (List.replicate m 0) i = 0 := by unfold nth; rw [List.getD_eq_getElem?_getD, List.getElem?_replicate, if_pos hi]; rfl
  rw [this]
  decide
theorem ow_stores {w : World} {d : Ext} {g n c base : Nat} {L : List Int} (j : Nat) {x : Int} (h : Ow (lay w [.inr d]) base (.slice (some ⟨g, 0, none⟩) n c) L) (hg : w.heap.size ≤ g) (hx : (Lit.int .i64 x).wf = true) :
    ∃ d', (lay w [.inr d]).setCell ⟨g, j, none⟩ (.int .i64 x) = lay w [.inr d'] ∧ Ow (lay w [.inr d']) base (.slice (some ⟨g, 0, none⟩) n c) (L.set j x) := by
  obtain ⟨d2, e2⟩ := bw_store (w := w) (d := d) (g := g) (i := j) (v := .int .i64 x) hg
  have e3 : (lay w [.inr d]).setCell ⟨g, j, none⟩ (.int .i64 x) = lay w [.inr d2] := e2
  have h2 := ow_store h j x hx
  rw [e3] at h2
  exact ⟨d2, e3, h2⟩
theorem lit_of {n : Int} (h0 : -9223372036854775808 ≤ n) (h1 : n ≤ 9223372036854775807) : (Lit.int .i64 n).wf = true := by
  simp [Lit.wf, IntKind.min, IntKind.max, IntKind.signed, IntKind.bits]
  omega
theorem smp_len {f t : Int} : ∀ (k : Nat), (t - f).toNat ≤ k * 1200000 → (smp f t).length ≤ k + 1 := by
  intro k
  induction k generalizing f with
  | zero =>
    intro h
    rw [smp_end (by omega)]
    exact Nat.le_refl _
  | succ k ih =>
    intro h
    by_cases c : f < t
    · rw [smp_lt c, List.length_cons]
      have := ih (f := f + 1200000) (by omega)
      omega
    · rw [smp_end c]
      simp
theorem ow_formN {w : World} {base N : Nat} {v : Value} {l : List Int} (h : Ow w base v l) (hN : l.length = N) : ∃ a c, v = .slice a N c := by
  obtain ⟨a, c, e⟩ := h.form
  exact ⟨a, c, by rw [e, hN]⟩
theorem nth_at {l : List Int} {i : Nat} (h : i < l.length) : nth l i = l[i] := by unfold nth; rw [List.getD_eq_getElem?_getD, List.getElem?_eq_getElem h]; rfl
theorem drop_at {l : List Int} {i : Nat} (h : i < l.length) : l.drop i = nth l i :: l.drop (i + 1) := by rw [nth_at h]; exact List.drop_eq_getElem_cons h
theorem erF_at {E : Int → Int} : ∀ (l : List Int) (i : Nat), i < l.length → (∀ j, j < i → E (nth l j) = 0) → E (nth l i) ≠ 0 → erF E l = E (nth l i)
  | [], i, h, _, _ => by simp at h
  | a :: l, 0, h, _, he => by
    have he' : E a ≠ 0 := he
    show (if E a = 0 then erF E l else E a) = E a
    rw [if_neg he']
  | a :: l, i + 1, h, hp, he => by
    have h0 : E a = 0 := hp 0 (by omega)
    show (if E a = 0 then erF E l else E a) = E (nth l i)
    rw [if_pos h0]
    exact erF_at l i (by simpa using h) (fun j hj => hp (j + 1) (by omega)) he
theorem erF_0 {E : Int → Int} : ∀ (l : List Int), (∀ j, j < l.length → E (nth l j) = 0) → erF E l = 0
  | [], _ => rfl
  | a :: l, hp => by
    have h0 : E a = 0 := hp 0 (by simp)
    show (if E a = 0 then erF E l else E a) = 0
    rw [if_pos h0]
    exact erF_0 l (fun j hj => hp (j + 1) (by simpa using hj))
theorem smp_mem {t : Int} : ∀ (k : Nat) (f : Int), (t - f).toNat ≤ k * 1200000 → f ≤ t → (∀ z ∈ smp f t, f ≤ z ∧ z ≤ t) ∧ (smp f t).Pairwise (· < ·)
  | 0, f, h, hf => by
    rw [smp_end (by omega)]
    exact ⟨fun z hz => by rw [List.mem_singleton.1 hz]; omega, List.pairwise_singleton _ _⟩
  | k + 1, f, h, hf => by
    by_cases c : f < t
    · rw [smp_lt c]
      by_cases c2 : f + 1200000 ≤ t
      · obtain ⟨h1, h2⟩ := smp_mem k (f + 1200000) (by omega) c2
        refine ⟨fun z hz => ?_, List.pairwise_cons.2 ⟨fun z hz => by have := h1 z hz; omega, h2⟩⟩
        rcases List.mem_cons.1 hz with rfl | hz
        · omega
        · have := h1 z hz; omega
      · rw [smp_end (by omega)]
        refine ⟨fun z hz => ?_, List.pairwise_cons.2 ⟨fun z hz => by rw [List.mem_singleton.1 hz]; omega, List.pairwise_singleton _ _⟩⟩
        rcases List.mem_cons.1 hz with rfl | hz
        · omega
        · rw [List.mem_singleton.1 hz]; omega
    · rw [smp_end c]
      exact ⟨fun z hz => by rw [List.mem_singleton.1 hz]; omega, List.pairwise_singleton _ _⟩
theorem smp_lt2 {f t : Int} (hf : f ≤ t) {i j : Nat} (hij : j < i) (hi : i < (smp f t).length) : nth (smp f t) j < nth (smp f t) i ∧ f ≤ nth (smp f t) j ∧ nth (smp f t) i ≤ t := by
  obtain ⟨h1, h2⟩ := smp_mem ((t - f).toNat) f (by omega) hf
  rw [nth_at hi, nth_at (show j < (smp f t).length by omega)]
  exact ⟨List.pairwise_iff_getElem.1 h2 j i _ _ hij, (h1 _ (List.getElem_mem _)).1, (h1 _ (List.getElem_mem _)).2⟩
def CrPost (S E : Int → Int) (f t : Int) (w : World) (e : Ending) (w' : World) : Prop :=
  (∃ d, w' = bw w d) ∧ ((erF E (smp f t) ≠ 0 ∧ e = .returned (.tuple #[.slice none 0 0, .int .i64 (erF E (smp f t))])) ∨ (erF E (smp f t) = 0 ∧ ∃ v, e = .returned (.tuple #[v, .int .i64 0]) ∧ SlG crR w' v (crF S (smp f t) 0 0)))
set_option maxHeartbeats 8000000 in
set_option maxRecDepth 100000 in
theorem hz_crossings (S E : Int → Int) (bk : Nat) (s : ByteArray) (u x n f t : Int) (w : World) (HS0 : WSide S E bk s u x n w) (hft : f ≤ t) (h2d : t - f ≤ 172800000) (f0 : -70368744177664 ≤ f) (t0 : t ≤ 70368744177664) (hS3 : ∀ m, S m = -1 ∨ S m = 0 ∨ S m = 1) (hE : erF E (smp f t) = 0 → ∀ m, f ≤ m → m ≤ t → E m = 0) :
    Calls Tryz.prog 77 #[.agg #[.pointer (some ⟨bk, 0, none⟩), .string s, .int .i64 u, .int .i64 u, .int .i64 x, .int .i64 x, .int .i64 n], .int .i64 f, .int .i64 t] w (CrPost S E f t w) := by
  have HS := Lib.hid HS0
  have hlen := smp_len (f := f) (t := t) 144 (by omega)
  have HE := Lib.hid hE
  have HS3 := Lib.hid hS3
  clear HS0 hE hS3
  refine lay_start ?_
  go_enter Tryz.func77, Tryz.ntmps77
  go_wp2_with fail
  go_loopw [9, 8] (fun v9 v8 wr => ∃ (q : Int) (done : List Int) (d : Ext), f ≤ q ∧ q ≤ t + 1200000 ∧ smp f t = done ++ smp q t ∧ v9 = .int .i64 q ∧ wr = lay w [.inr d, .inl (Obj.cells #[.pointer (some ⟨bk, 0, none⟩), .string s, .int .i64 u, .int .i64 u, .int .i64 x, .int .i64 x, .int .i64 n] 128)] ∧ Ow (lay w [.inr d, .inl (Obj.cells #[.pointer (some ⟨bk, 0, none⟩), .string s, .int .i64 u, .int .i64 u, .int .i64 x, .int .i64 x, .int .i64 n] 128)]) (lay w [.inl (Obj.cells #[.pointer (some ⟨bk, 0, none⟩), .string s, .int .i64 u, .int .i64 u, .int .i64 x, .int .i64 x, .int .i64 n] 128)]).heap.size v8 done) (fun v9 _ _ => (t + 1200001 - intOf v9).toNat)
  case atStart => exact ⟨f, [], noExt _, Int.le_refl _, by omega, rfl, rfl, (bw_noExt _).symm, Ow.nil _ _⟩
  case round =>
    obtain ⟨q, done, d, q0, q1, hsm, rfl, rfl, hO⟩ := hrel
    have HO := Lib.hid hO
    obtain ⟨oa, oc, rfl⟩ := hO.form
    clear hO
    have hdl : done.length ≤ 1000 := by rw [hsm, List.length_append] at hlen; omega
    have lw : (Lit.int .i64 q).wf = true := lit_of (by omega) (by omega)
    have k1 : IntKind.i64.wrap (q + 1200000) = q + 1200000 := IntWalk.i64_in _ (by omega)
    by_cases c : q < t
    · go_wp2_with (first | (at_builtin; refine push_int rfl _ _ rfl (lay w [.inl (Obj.cells #[.pointer (some ⟨bk, 0, none⟩), .string s, .int .i64 u, .int .i64 u, .int .i64 x, .int .i64 x, .int .i64 n] 128)]) _ (q) 3 _ _ _ ?_ (ow_on (A := [_]) HO.out) ?_ rfl rfl (by omega) lw ?_; exact lay_below (A := [_, _]); exact lay_get w _ 0 _ rfl; intro v' d' hv'))
      go_roundw
      case rel => exact ⟨q + 1200000, done ++ [q], d', by omega, by omega, by rw [hsm, smp_lt c, List.append_assoc]; rfl, rfl, rfl, hv'⟩
      case measure => simp [intOf]; omega
    · have lw2 : (Lit.int .i64 t).wf = true := lit_of (by omega) (by omega)
      rw [smp_end c] at hsm
      obtain ⟨N, hN⟩ : ∃ N, (done ++ [t]).length = N := ⟨_, rfl⟩
      have hNb : 1 ≤ N ∧ N ≤ 145 := by rw [← hN]; rw [hsm] at hlen; refine ⟨by rw [List.length_append]; simp, by omega⟩
      have hmk := make_ints (m := N) (by omega)
      have kN : IntKind.i64.wrap (N : Int) = (N : Int) := IntWalk.i64_in _ (by omega)
      go_wp2_with (first | (at_builtin; refine push_int rfl _ _ rfl (lay w [.inl (Obj.cells #[.pointer (some ⟨bk, 0, none⟩), .string s, .int .i64 u, .int .i64 u, .int .i64 x, .int .i64 x, .int .i64 n] 128)]) _ t 3 _ _ _ ?_ (ow_on (A := [_]) HO.out) ?_ rfl rfl (by omega) lw2 ?_; exact lay_below (A := [_, _]); exact lay_get w _ 0 _ rfl; intro v' d' hv'; obtain ⟨aa, ac, rfl⟩ := ow_formN hv' hN))
      rw [← hsm] at hN hv'
      have HSl : Hid (Sl (lay w [.inr d', .inl (Obj.cells #[.pointer (some ⟨bk, 0, none⟩), .string s, .int .i64 u, .int .i64 u, .int .i64 x, .int .i64 x, .int .i64 n] 128)]) (.slice aa N ac) (smp f t)) := Lib.hid hv'.sl
      have HO2 : Hid (Ow (lay w [.inl (.cells (madeCells #[.int .i64 0] N) 3 (0, 0)), .inr d', .inl (Obj.cells #[.pointer (some ⟨bk, 0, none⟩), .string s, .int .i64 u, .int .i64 u, .int .i64 x, .int .i64 x, .int .i64 n] 128)]) (lay w [.inr d', .inl (Obj.cells #[.pointer (some ⟨bk, 0, none⟩), .string s, .int .i64 u, .int .i64 u, .int .i64 x, .int .i64 x, .int .i64 n] 128)]).heap.size (.slice (some ⟨posn w [d'.n, 1], 0, none⟩) N N) (List.replicate N 0)) := Lib.hid (ow_mades (by omega))
      have HW1 := Lib.hid (HS.out.on [.inr d', .inl (Obj.cells #[.pointer (some ⟨bk, 0, none⟩), .string s, .int .i64 u, .int .i64 u, .int .i64 x, .int .i64 x, .int .i64 n] 128)])
      have hc0 : (lay w [.inr d', .inl (Obj.cells #[.pointer (some ⟨bk, 0, none⟩), .string s, .int .i64 u, .int .i64 u, .int .i64 x, .int .i64 x, .int .i64 n] 128)]).cell? ⟨posn w [], 0, none⟩ = some (.pointer (some ⟨bk, 0, none⟩)) := by simp [go_sem]
      have hc1 : (lay w [.inr d', .inl (Obj.cells #[.pointer (some ⟨bk, 0, none⟩), .string s, .int .i64 u, .int .i64 u, .int .i64 x, .int .i64 x, .int .i64 n] 128)]).cell? ⟨posn w [], 1, none⟩ = some (.string s) := by simp [go_sem]
      have hc2 : (lay w [.inr d', .inl (Obj.cells #[.pointer (some ⟨bk, 0, none⟩), .string s, .int .i64 u, .int .i64 u, .int .i64 x, .int .i64 x, .int .i64 n] 128)]).cell? ⟨posn w [], 2, none⟩ = some (.int .i64 u) := by simp [go_sem]
      have hc3 : (lay w [.inr d', .inl (Obj.cells #[.pointer (some ⟨bk, 0, none⟩), .string s, .int .i64 u, .int .i64 u, .int .i64 x, .int .i64 x, .int .i64 n] 128)]).cell? ⟨posn w [], 3, none⟩ = some (.int .i64 u) := by simp [go_sem]
      have hc4 : (lay w [.inr d', .inl (Obj.cells #[.pointer (some ⟨bk, 0, none⟩), .string s, .int .i64 u, .int .i64 u, .int .i64 x, .int .i64 x, .int .i64 n] 128)]).cell? ⟨posn w [], 4, none⟩ = some (.int .i64 x) := by simp [go_sem]
      have hc5 : (lay w [.inr d', .inl (Obj.cells #[.pointer (some ⟨bk, 0, none⟩), .string s, .int .i64 u, .int .i64 u, .int .i64 x, .int .i64 x, .int .i64 n] 128)]).cell? ⟨posn w [], 5, none⟩ = some (.int .i64 x) := by simp [go_sem]
      have hc6 : (lay w [.inr d', .inl (Obj.cells #[.pointer (some ⟨bk, 0, none⟩), .string s, .int .i64 u, .int .i64 u, .int .i64 x, .int .i64 x, .int .i64 n] 128)]).cell? ⟨posn w [], 6, none⟩ = some (.int .i64 n) := by simp [go_sem]
      have hbx : posn w [] < (lay w [.inr d', .inl (Obj.cells #[.pointer (some ⟨bk, 0, none⟩), .string s, .int .i64 u, .int .i64 u, .int .i64 x, .int .i64 x, .int .i64 n] 128)]).heap.size := by rw [lay_size]; simp [posn, shp]
      have hg : (lay w [.inr d', .inl (Obj.cells #[.pointer (some ⟨bk, 0, none⟩), .string s, .int .i64 u, .int .i64 u, .int .i64 x, .int .i64 x, .int .i64 n] 128)]).heap.size ≤ posn w [d'.n, 1] := by rw [lay_size]; exact Nat.le_refl _
      have hex : ∀ L, ∃ z, lay (lay w [.inr d', .inl (Obj.cells #[.pointer (some ⟨bk, 0, none⟩), .string s, .int .i64 u, .int .i64 u, .int .i64 x, .int .i64 x, .int .i64 n] 128)]) L = bw w z := fun L => by rw [← lay_appG]; exact lay_ex _ _
      change Code.wp _ _ _ _ (lay (lay w [.inr d', .inl (Obj.cells #[.pointer (some ⟨bk, 0, none⟩), .string s, .int .i64 u, .int .i64 u, .int .i64 x, .int .i64 x, .int .i64 n] 128)]) [.inl (.cells (madeCells #[.int .i64 0] N) 3 (0, 0))])
      change Hid (Ow (lay (lay w [.inr d', .inl (Obj.cells #[.pointer (some ⟨bk, 0, none⟩), .string s, .int .i64 u, .int .i64 u, .int .i64 x, .int .i64 x, .int .i64 n] 128)]) [.inl (.cells (madeCells #[.int .i64 0] N) 3 (0, 0))]) _ _ _) at HO2
      generalize lay w [.inr d', .inl (Obj.cells #[.pointer (some ⟨bk, 0, none⟩), .string s, .int .i64 u, .int .i64 u, .int .i64 x, .int .i64 x, .int .i64 n] 128)] = W1 at HSl HO2 HW1 hc0 hc1 hc2 hc3 hc4 hc5 hc6 hbx hg hex ⊢
      generalize posn w [] = bx at hc0 hc1 hc2 hc3 hc4 hc5 hc6 hbx ⊢
      generalize posn w [d'.n, 1] = g at HO2 hg ⊢
      obtain ⟨b, o, cap, e, hcap, hwf, hb, hr⟩ := HSl.out.open (by omega)
      simp only [Value.slice.injEq] at e
      obtain ⟨rfl, -, rfl⟩ := e
      obtain ⟨dz, ez⟩ := lay_ex W1 [.inl (.cells (madeCells #[.int .i64 0] N) 3 (0, 0))]
      change _ = lay W1 [.inr dz] at ez
      rw [ez] at HO2 ⊢
      have HWF := Lib.hid hwf
      clear ez HSl hv' HO HS hmk kN lw lw2 k1 hwf hsm
      go_loopw [40] (fun v40 wr => ∃ (i : Nat) (d2 : Ext) (Ls : List Int), i ≤ N ∧ Ls.length = N ∧ (∀ j, j < i → nth Ls j = S (nth (smp f t) j) ∧ E (nth (smp f t) j) = 0) ∧ v40 = .int .i64 (i : Int) ∧ wr = lay W1 [.inr d2] ∧ Ow (lay W1 [.inr d2]) W1.heap.size (.slice (some ⟨g, 0, none⟩) N N) Ls) (fun v40 _ => ((N : Int) - intOf v40).toNat)
      case atStart => exact ⟨0, dz, _, Nat.zero_le _, List.length_replicate, (fun j hj => absurd hj (Nat.not_lt_zero _)), rfl, rfl, HO2.out⟩
      case round =>
        obtain ⟨i, d2, Ls, hi, hLs, hpre, rfl, rfl, hOs⟩ := hrel
        have HOs := Lib.hid hOs
        have HPre := Lib.hid hpre
        clear hOs hpre
        have kI : IntKind.i64.wrap ((i : Int) + 1) = ((i + 1 : Nat) : Int) := by rw [IntWalk.i64_in _ (by omega)]; omega
        by_cases c : i < N
        · have hcx := hr i (by omega)
          have i0 : (0 : Int) ≤ (i : Int) := by omega
          have i1 : (i : Int) < (N : Int) := by omega
          obtain ⟨X, hX⟩ : ∃ X, nth (smp f t) i = X := ⟨_, rfl⟩
          rw [hX] at hcx
          have HSm := Lib.hid (HW1.out X)
          by_cases hEx : E X = 0
          · rw [hEx, if_pos rfl] at HSm
            have lwS : (Lit.int .i64 (S X)).wf = true := lit_of (by have := HS3.out X; omega) (by have := HS3.out X; omega)
            have HX := Lib.hid hX
            clear hr hX
            go_wp2_with fail
            refine (HSm.out [_]).mono ?_
            rintro e w' ⟨rfl, d3, rfl⟩
            obtain ⟨d4, e4⟩ : ∃ y, bw (lay W1 [.inr d2]) d3 = lay W1 [.inr y] := ⟨_, bw_bw _ _ _⟩
            have HO3 : Hid (Ow (lay W1 [.inr d4]) W1.heap.size (.slice (some ⟨g, 0, none⟩) N N) Ls) := Lib.hid (by rw [← e4]; exact ow_on (A := [.inr d3]) HOs.out)
            rw [e4]
            have fz := HO3.out.froz i
            have co := HO3.out.cell (i := i) (by omega)
            obtain ⟨d5, e5, hO4⟩ := ow_stores i HO3.out hg lwS
            have HO4 := Lib.hid hO4
            clear hO4 e4
            go_wp2_with fail
            go_roundw
            case rel => exact ⟨i + 1, d5, _, by omega, by rw [List.length_set]; exact hLs, (fun j hj => by
              rw [nth_set _ _ _ (by omega)]
              by_cases ej : j = i
              · subst ej; rw [if_pos rfl, HX.out]; exact ⟨rfl, hEx⟩
              · rw [if_neg ej]; exact HPre.out j (by omega)), rfl, rfl, HO4.out⟩
            case measure => simp [intOf]; omega
          · have her : erF E (smp f t) = E X := by rw [← hX]; exact erF_at _ i (by omega) (fun j hj => (HPre.out j hj).2) (by rw [hX]; exact hEx)
            rw [if_neg hEx] at HSm
            obtain ⟨EX, hEX⟩ : ∃ EX, E X = EX := ⟨_, rfl⟩
            rw [hEX] at HSm her hEx
            have g1 : (EX != 0) = true := by simpa using hEx
            have g2 : (EX == 0) = false := beq_eq_false_iff_ne.2 hEx
            clear hr hX
            go_wp2_with fail
            refine (HSm.out [_]).mono ?_
            rintro e w' ⟨rfl, d3, rfl⟩
            rw [lay_bw]
            go_wp2_with fail
            exact bodyPost_ret (v := .tuple #[.slice none 0 0, .int .i64 EX]) (by simp [results, Tryz.results77, go_sem]) rfl ⟨hex _, .inl ⟨by rw [her]; exact hEx, by rw [her]⟩⟩
        · obtain rfl : i = N := by omega
          have her : erF E (smp f t) = 0 := erF_0 _ (fun j hj => (HPre.out j (by omega)).2)
          have HE0 := Lib.hid (HE.out her)
          have HLs : Hid (∀ j, j < i → nth Ls j = S (nth (smp f t) j)) := Lib.hid (fun j hj => (HPre.out j hj).1)
          have HS2 := Lib.hid (HW1.out.on [.inr d2])
          have HSb := HOs.out
          have hex2 : ∀ L, ∃ z, lay (lay W1 [.inr d2]) L = bw w z := fun L => by rw [← lay_appG]; exact hex _
          have hbx2 : bx < (lay W1 [.inr d2]).heap.size := Nat.lt_of_lt_of_le hbx (lay_extends _ _).size
          have hb2 : b < (lay W1 [.inr d2]).heap.size := Nat.lt_of_lt_of_le hb (lay_extends _ _).size
          have hr2 : ∀ j, j < (smp f t).length → (lay W1 [.inr d2]).cell? ⟨b, o + j, none⟩ = some (.int .i64 (nth (smp f t) j)) := fun j hj => (lay_old _ _ _ _ hb).trans (hr j hj)
          have hd0 := (lay_old W1 [.inr d2] 0 bx hbx).trans hc0
          have hd1 := (lay_old W1 [.inr d2] 1 bx hbx).trans hc1
          have hd2 := (lay_old W1 [.inr d2] 2 bx hbx).trans hc2
          have hd3 := (lay_old W1 [.inr d2] 3 bx hbx).trans hc3
          have hd4 := (lay_old W1 [.inr d2] 4 bx hbx).trans hc4
          have hd5 := (lay_old W1 [.inr d2] 5 bx hbx).trans hc5
          have hd6 := (lay_old W1 [.inr d2] 6 bx hbx).trans hc6
          have hgs : g < (lay W1 [.inr d2]).heap.size := (HSb.1.lt g rfl).2
          have hrs : ∀ j, j < i → (lay W1 [.inr d2]).cell? ⟨g, j, none⟩ = some (.int .i64 (nth Ls j)) := fun j hj => HSb.cell (i := j) (by omega)
          clear hc0 hc1 hc2 hc3 hc4 hc5 hc6 hbx hb hr hg hex HSb HOs HW1 HO2 HPre
          go_wp2_with fail
          change Code.wp _ _ _ _ (lay (lay W1 [.inr d2]) [])
          have HLs0 := Lib.hid hLs
          generalize hw2 : lay W1 [.inr d2] = w at HS2 hex2 hbx2 hb2 hr2 hd0 hd1 hd2 hd3 hd4 hd5 hd6 hgs hrs ⊢
          clear hw2
          go_loopw [61, 15, 16] (fun v61 v15 v16 wr => ∃ (r : Nat) (d3 : Ext) (lo : List CrV) (a k : Int), r ≤ i ∧ lo.length ≤ r ∧ v61 = .int .i64 (r : Int) ∧ wr = lay w [.inr d3] ∧ OwG crR (lay w [.inr d3]) w.heap.size v15 lo ∧ lo ++ crF S ((smp f t).drop r) a k = crF S (smp f t) 0 0 ∧ ((v16 = .int .i64 (-1) ∧ k = 0) ∨ ∃ j : Nat, j < r ∧ v16 = .int .i64 (j : Int) ∧ a = nth (smp f t) j ∧ k = nth Ls j ∧ k ≠ 0)) (fun v61 _ _ _ => ((i : Int) - intOf v61).toNat)
          case atStart => exact ⟨0, noExt _, [], 0, 0, Nat.zero_le _, Nat.zero_le _, rfl, (bw_noExt _).symm, OwG.nil _ _ _, by rw [List.drop_zero]; rfl, .inl ⟨rfl, rfl⟩⟩
          case round =>
            obtain ⟨r, d3, lo, a, k, hri, hlo, rfl, rfl, hO3, hC, hL⟩ := hrel
            have HO3 := Lib.hid hO3
            obtain ⟨oa3, oc3, rfl⟩ := hO3.form
            clear hO3
            have kr : IntKind.i64.wrap ((r : Int) + 1) = ((r + 1 : Nat) : Int) := by rw [IntWalk.i64_in _ (by omega)]; omega
            by_cases c3 : r < i
            · have hcr := hrs r c3
              have hcx := hr2 r (by omega)
              have r0 : (0 : Int) ≤ (r : Int) := by omega
              have r1 : (r : Int) < (i : Int) := by omega
              obtain ⟨X, hX⟩ : ∃ X, nth (smp f t) r = X := ⟨_, rfl⟩
              obtain ⟨D, hD⟩ : ∃ D, nth Ls r = D := ⟨_, rfl⟩
              have hSX : S X = D := by rw [← hX, ← hD]; exact (HLs.out r c3).symm
              rw [drop_at (by omega), hX] at hC
              rw [hX] at hcx
              rw [hD] at hcr
              by_cases hD0 : D = 0
              · rw [cr_zero (hSX.trans hD0)] at hC
                subst hD0
                have HC := Lib.hid hC
                have HL := Lib.hid hL
                clear hC hL hr2 hrs hX hD hSX
                go_wp2_with fail
                go_roundw
                case rel => exact ⟨r + 1, d3, lo, a, k, by omega, by omega, rfl, rfl, HO3.out, HC.out, HL.out.elim .inl (fun ⟨j, h1, h2⟩ => .inr ⟨j, by omega, h2⟩)⟩
                case measure => simp [intOf]; omega
              · have e1 : (D == 0) = false := beq_eq_false_iff_ne.2 hD0
                rcases hL with ⟨rfl, rfl⟩ | ⟨j, hj, rfl, rfl, rfl, hk0⟩
                · rw [cr_same (by rw [hSX]; exact hD0) (.inl rfl), hSX] at hC
                  have HC := Lib.hid hC
                  have HX := Lib.hid hX
                  have HD := Lib.hid hD
                  clear hC hr2 hrs hX hD hSX
                  go_wp2_with fail
                  go_roundw
                  case rel => exact ⟨r + 1, d3, lo, X, D, by omega, by omega, rfl, rfl, HO3.out, HC.out, .inr ⟨r, by omega, rfl, HX.out.symm, HD.out.symm, hD0⟩⟩
                  case measure => simp [intOf]; omega
                · have hcj := hrs j (by omega)
                  have hcy := hr2 j (by omega)
                  have j0 : (0 : Int) ≤ (j : Int) := by omega
                  have j1 : (j : Int) < (i : Int) := by omega
                  have lt2 := smp_lt2 hft hj (show r < (smp f t).length by omega)
                  rw [hX] at lt2
                  obtain ⟨Y, hY⟩ : ∃ Y, nth (smp f t) j = Y := ⟨_, rfl⟩
                  obtain ⟨K, hK⟩ : ∃ K, nth Ls j = K := ⟨_, rfl⟩
                  have hSY : S Y = K := by rw [← hY, ← hK]; exact (HLs.out j (by omega)).symm
                  rw [hY] at hcy lt2 hC
                  rw [hK] at hcj hC hk0
                  by_cases hDK : D = K
                  · rw [cr_same (by rw [hSX]; exact hD0) (.inr (hSX.trans hDK)), hSX] at hC
                    subst hDK
                    have HC := Lib.hid hC
                    have HX := Lib.hid hX
                    have HD := Lib.hid hD
                    clear hC hr2 hrs hX hD hSX hY hK hSY lt2
                    go_wp2_with fail
                    go_roundw
                    case rel => exact ⟨r + 1, d3, lo, X, D, by omega, by omega, rfl, rfl, HO3.out, HC.out, .inr ⟨r, by omega, rfl, HX.out.symm, HD.out.symm, hD0⟩⟩
                    case measure => simp [intOf]; omega
                  · rw [cr_cross (by rw [hSX]; exact hD0) hk0 (by rw [hSX]; exact hDK), hSX] at hC
                    have e2 : (K == D) = false := beq_eq_false_iff_ne.2 (fun h => hDK h.symm)
                    have e3 : (K != D) = true := by simpa using (fun h : K = D => hDK h.symm)
                    have HB := Lib.hid (fun L => hz_between S E bk s u x n Y X K D (lay w L) (HS2.out.on L) lt2.1 (by omega) (by omega) (fun m h1 h2 => HE0.out m (by omega) (by omega)))
                    have hP := lst_is S K ((X - Y).toNat) Y X (by omega) lt2.1 hSY
                    have hQ := fst_is S D ((X - Y).toNat) Y X (by omega) lt2.1 hSX
                    unfold CRW at HB
                    have hP2 : -70368744177664 ≤ lstR S K Y X ∧ lstR S K Y X ≤ 70368744177664 := by have := hP.2; have := lt2.2; omega
                    have hQ2 : -70368744177664 ≤ fstR S D Y X ∧ fstR S D Y X ≤ 70368744177664 := by have := hQ.2; have := lt2.2; omega
                    clear hP hQ
                    obtain ⟨UP, hUP⟩ : ∃ UP, decide (K < 0) = UP := ⟨_, rfl⟩
                    rw [hUP] at HB hC
                    generalize lstR S K Y X = P at *
                    generalize fstR S D Y X = Q at *
                    have HWC : Hid (crR.wf ⟨P, Q, UP⟩) := Lib.hid ⟨show (Lit.int .i64 P).wf = true from lit_of (by omega) (by omega), show (Lit.int .i64 Q).wf = true from lit_of (by omega) (by omega)⟩
                    have HC := Lib.hid hC
                    have HX := Lib.hid hX
                    have HD := Lib.hid hD
                    clear hC hr2 hrs hX hD hSX hY hK hSY lt2 hP2 hQ2 hUP
                    go_wp2_with fail
                    refine region_mixW [0, 0, 0, 0, 0, 0, 0, 0, 0, 0, 0, 0, 0, 0, 0, 0, 0, 0, 1, 1, 0] (by kernel_rfl) (by kernel_rfl) (by kernel_rfl) ?_
                    repeat (first | (refine wpM_quiet (fun K hK => ?_); go_simp; first | (refine hK _ ?_; clear hK K) | (apply Exists.intro; refine ⟨fun _ => ?_, hK _ ?_⟩; (first | (go_at_call 168; exact bq (HB.out _) (fun d => ⟨d, rfl⟩))); clear hK K)) | (refine wpM_special (fun K hK d => ?_); go_simp; refine hK _ _ (by first | exact lay_in w [_] _ | exact lay_in w [_, _] _ | exact lay_in w [_, _, _] _ | exact lay_in w [_, _, _, _] _ | exact lay_in w [_, _, _, _, _] _ | exact lay_in w [_, _, _, _, _, _] _) ?_; clear hK K))
                    refine wpM_nil ?_
                    intro d
                    rw [lay_bw]
                    go_wp2_with (first | (at_builtin; refine push_rec crOk rfl _ _ rfl (lay w []) _ ⟨P, Q, UP⟩ #[.int .i64 P, .int .i64 Q, .bool UP] 202 _ _ lo ?_ (by first | exact owG_on (A := [_, _]) HO3.out | exact owG_on (A := [_, _, _]) HO3.out | exact owG_on (A := [_, _, _, _]) HO3.out | exact owG_on (A := [_, _, _, _, _]) HO3.out) ?_ rfl rfl rfl (by omega) HWC.out ?_; (first | exact lay_belowG (A := [_, _, _]) (B := []) | exact lay_belowG (A := [_, _, _, _]) (B := []) | exact lay_belowG (A := [_, _, _, _, _]) (B := []) | exact lay_belowG (A := [_, _, _, _, _, _]) (B := [])); exact lay_get w _ 0 _ rfl; intro v4 d4 hv4))
                    go_roundw
                    case rel => exact ⟨r + 1, d4, lo ++ [(⟨P, Q, UP⟩ : CrV)], X, D, by omega, by rw [List.length_append]; simp; omega, rfl, rfl, hv4, by rw [List.append_assoc]; exact HC.out, .inr ⟨r, by omega, rfl, HX.out.symm, HD.out.symm, hD0⟩⟩
                    case measure => simp [intOf]; omega
            · have hC2 : lo = crF S (smp f t) 0 0 := by
                rw [List.drop_eq_nil_of_le (by omega)] at hC
                have : crF S [] a k = [] := rfl
                rw [this, List.append_nil] at hC
                exact hC
              have HCr := Lib.hid hC2
              clear hC hC2 hL hr2 hrs
              go_wp2_with fail
              exact bodyPost_ret (v := .tuple #[.slice oa3 lo.length oc3, .int .i64 0]) (by simp [results, Tryz.results77, go_sem]) rfl ⟨hex2 _, .inr ⟨her, _, rfl, by rw [← HCr.out]; exact HO3.out.sl crOk⟩⟩
end Go.Proofs.YtnnmfdeeicpdlaaGreat
/- Crossings of an altitude: the program's. -/
namespace Go.Proofs.YtnnmfdeeicpdlaaGreat
open Go.RowKit Go.Shelf

theorem whR_tm {lp : List PgV} {ls : List StarV} {s : ByteArray} {a b : Int} (h : (whR lp ls s a b).2 = 0) : timB a b = true := by
  cases e : timB a b
  · rw [whR_bad e] at h; cases h
  · rfl
theorem whR_day {lp : List PgV} {ls : List StarV} {s : ByteArray} {a b m : Int} (h1 : (whR lp ls s a a).2 = 0) (h2 : (whR lp ls s b b).2 = 0) (ham : a ≤ m) (hmb : m ≤ b) (hd : b - a ≤ 86400000) : (whR lp ls s m m).2 = 0 := by
  have ta := whR_tm h1
  have tb := whR_tm h2
  have tm : timB m m = true := by have := timB_iff.1 ta; have := timB_iff.1 tb; exact timB_iff.2 (by omega)
  cases whW lp ls s m m with
  | bad k => rw [tm] at k; cases k
  | name t k =>
    cases whW lp ls s a a with
    | bad k2 => rw [ta] at k2; cases k2
    | name t2 k2 => rw [whR_name t2 k2] at h1; cases h1
    | wide t2 k2 d => omega
    | aries t2 d k2 => rw [known_aries k2] at k; cases k
    | star i x t2 d k2 f g e => rw [known_star f] at k; cases k
    | body t2 d k2 f g c => rw [known_body c] at k; cases k
  | wide t k d => omega
  | aries t d k => rw [whR_aries t d k]
  | star i x t d k f g e => rw [whR_star t d k f e]
  | body t d k f g c =>
    rw [whR_body t d k g c]
    have key : ∀ z, (whR lp ls s z z).2 = 0 → timB z z = true → z / 86400000 = m / 86400000 → (bodyR lp s m m).2 = 0 := by
      intro z hz tz e
      have hz2 : (bodyR lp s z z).2 = 0 := by
        rw [whR_body tz (by omega) k g c] at hz; exact hz
      cases h3 : trkAt lp s (z / 86400000) with
      | none => rw [bodyR_no h3] at hz2; cases hz2
      | some u => rw [bodyR_one (a := m) (b := m) (by rw [← e]; exact h3) rfl]
    by_cases e : a / 86400000 = m / 86400000
    · exact key a h1 ta e
    · exact key b h2 tb (by omega)
end Go.Proofs.YtnnmfdeeicpdlaaGreat
/- Crossings (package horizon), for right arguments. -/
namespace Go.Proofs.YtnnmfdeeicpdlaaGreat
open Go.RowKit Go.Shelf

theorem crF_len (S : Int → Int) : ∀ (l : List Int) (a k : Int), (crF S l a k).length ≤ l.length
  | [], _, _ => Nat.le_refl _
  | t :: l, a, k => by
    have h1 := crF_len S l a k
    have h2 := crF_len S l t (S t)
    by_cases c : S t = 0
    · rw [cr_zero c, List.length_cons]; omega
    · by_cases g : k = 0 ∨ S t = k
      · rw [cr_same c g, List.length_cons]; omega
      · rw [not_or] at g
        rw [cr_cross c g.1 g.2, List.length_cons, List.length_cons]; omega
set_option maxHeartbeats 1000000 in
theorem hz_altitudes (n : Int) (w : World) :
    Calls Tryz.prog 76 #[.int .i64 n] w fun e w' => e = .returned (.bool (decide (-5400000 ≤ n ∧ n ≤ 5400000))) ∧ ∃ d, w' = bw w d := by
  refine lay_start ?_
  go_enter Tryz.func76, Tryz.ntmps76
  go_wp2
  all_goals go_ret
  all_goals exact ⟨ret_bool (by rw [Bool.eq_iff_iff]; simp; try omega), lay_ex _ _⟩
end Go.Proofs.YtnnmfdeeicpdlaaGreat

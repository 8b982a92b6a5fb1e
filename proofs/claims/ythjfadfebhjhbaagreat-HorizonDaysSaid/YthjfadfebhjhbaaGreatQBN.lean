/- Contracts and plain laws, several texts in one: Hz5; HzO; HzC -/
import Derived.Test.YthjfadfebhjhbaaGreatProg
import Derived.WalkKit
import Derived.WalkSpells
import Derived.WalkLawsBesides
import Derived.Lib.Hide
import Derived.BigQuiet
import Derived.Test.YthjfadfebhjhbaaGreatQAA
import Derived.Test.YthjfadfebhjhbaaGreatQAB
import Derived.Test.YthjfadfebhjhbaaGreatQAK
import Derived.Test.YthjfadfebhjhbaaGreatQBM
/- Phase: the program's and the reference's. -/
namespace Go.Proofs.YthjfadfebhjhbaaGreat
open Go.RowKit Go.Shelf

set_option maxHeartbeats 1000000 in
theorem hz_here (bk : Nat) (u x : Int) (w : World) :
    Calls Tryz.prog 36 #[.pointer (some ⟨bk, 0, none⟩), (.agg #[.int .i64 (u), .int .i64 (x)])] w fun e w' => e = .returned (if ptB u x = true then .tuple #[(.agg #[.int .i64 (u), .int .i64 (u), .int .i64 (x), .int .i64 (x)]), .int .i64 0] else .tuple #[(.agg #[.int .i64 (0), .int .i64 (0), .int .i64 (0), .int .i64 (0)]), .int .i64 1]) ∧ ∃ d, w' = bw w d := by
  have HA := Lib.hid (fun W => plc_Of u x W)
  generalize ptB u x = p at *
  cases p
  · refine lay_start ?_
    go_enter Tryz.func36, Tryz.ntmps36
    go_wp2_with (go_at_call 77; refine (HA.out _).mono ?_; rintro e w' ⟨rfl, d1, rfl⟩; rw [lay_bw, if_neg (by decide)])
    exact bodyPost_ret (v := .tuple #[(.agg #[.int .i64 (0), .int .i64 (0), .int .i64 (0), .int .i64 (0)]), .int .i64 1]) (by simp [results, Tryz.results36, go_sem]) rfl ⟨by simp, lay_ex _ _⟩
  · refine lay_start ?_
    go_enter Tryz.func36, Tryz.ntmps36
    go_wp2_with (go_at_call 77; refine (HA.out _).mono ?_; rintro e w' ⟨rfl, d1, rfl⟩; rw [lay_bw, if_pos rfl])
    exact bodyPost_ret (v := .tuple #[(.agg #[.int .i64 (u), .int .i64 (u), .int .i64 (x), .int .i64 (x)]), .int .i64 0]) (by simp [results, Tryz.results36, go_sem]) rfl ⟨by simp, lay_ex _ _⟩
end Go.Proofs.YthjfadfebhjhbaaGreat
/- HorizonOrder: the plain law. -/
namespace Go.Proofs.YthjfadfebhjhbaaGreat
open Go.RowKit Go.Shelf

variable {lp : List PgV} {ls : List StarV} {s : ByteArray}
end Go.Proofs.YthjfadfebhjhbaaGreat
/- Crossings: the plain law. -/
namespace Go.Proofs.YthjfadfebhjhbaaGreat
open Go.RowKit Go.Shelf

def lstR (S : Int → Int) (s lo hi : Int) : Int :=
  if 1 < hi - lo then (if S ((lo + hi) / 2) = s then lstR S s ((lo + hi) / 2) hi else lstR S s lo ((lo + hi) / 2)) else lo
  termination_by (hi - lo).toNat
  decreasing_by all_goals omega
def fstR (S : Int → Int) (s lo hi : Int) : Int :=
  if 1 < hi - lo then (if S ((lo + hi) / 2) = s then fstR S s lo ((lo + hi) / 2) else fstR S s ((lo + hi) / 2) hi) else hi
  termination_by (hi - lo).toNat
  decreasing_by all_goals omega
theorem lst_end {S : Int → Int} {s lo hi : Int} (h : ¬ 1 < hi - lo) : lstR S s lo hi = lo := by rw [lstR, if_neg h]
theorem lst_yes {S : Int → Int} {s lo hi : Int} (h : 1 < hi - lo) (k : S ((lo + hi) / 2) = s) : lstR S s lo hi = lstR S s ((lo + hi) / 2) hi := by rw [lstR, if_pos h, if_pos k]
theorem lst_no {S : Int → Int} {s lo hi : Int} (h : 1 < hi - lo) (k : ¬ S ((lo + hi) / 2) = s) : lstR S s lo hi = lstR S s lo ((lo + hi) / 2) := by rw [lstR, if_pos h, if_neg k]
theorem fst_end {S : Int → Int} {s lo hi : Int} (h : ¬ 1 < hi - lo) : fstR S s lo hi = hi := by rw [fstR, if_neg h]
theorem fst_yes {S : Int → Int} {s lo hi : Int} (h : 1 < hi - lo) (k : S ((lo + hi) / 2) = s) : fstR S s lo hi = fstR S s lo ((lo + hi) / 2) := by rw [fstR, if_pos h, if_pos k]
theorem fst_no {S : Int → Int} {s lo hi : Int} (h : 1 < hi - lo) (k : ¬ S ((lo + hi) / 2) = s) : fstR S s lo hi = fstR S s ((lo + hi) / 2) hi := by rw [fstR, if_pos h, if_neg k]
theorem lst_is (S : Int → Int) (s : Int) : ∀ (n : Nat) (lo hi : Int), (hi - lo).toNat ≤ n → lo < hi → S lo = s → S (lstR S s lo hi) = s ∧ lo ≤ lstR S s lo hi ∧ lstR S s lo hi < hi
  | 0, lo, hi, hn, h, _ => by omega
  | n + 1, lo, hi, hn, h, hs => by
    by_cases c : 1 < hi - lo
    · by_cases k : S ((lo + hi) / 2) = s
      · rw [lst_yes c k]
        have := lst_is S s n ((lo + hi) / 2) hi (by omega) (by omega) k
        exact ⟨this.1, by omega, this.2.2⟩
      · rw [lst_no c k]
        have := lst_is S s n lo ((lo + hi) / 2) (by omega) (by omega) hs
        exact ⟨this.1, this.2.1, by omega⟩
    · rw [lst_end c]; exact ⟨hs, Int.le_refl _, h⟩
theorem fst_is (S : Int → Int) (s : Int) : ∀ (n : Nat) (lo hi : Int), (hi - lo).toNat ≤ n → lo < hi → S hi = s → S (fstR S s lo hi) = s ∧ lo < fstR S s lo hi ∧ fstR S s lo hi ≤ hi
  | 0, lo, hi, hn, h, _ => by omega
  | n + 1, lo, hi, hn, h, hs => by
    by_cases c : 1 < hi - lo
    · by_cases k : S ((lo + hi) / 2) = s
      · rw [fst_yes c k]
        have := fst_is S s n lo ((lo + hi) / 2) (by omega) (by omega) k
        exact ⟨this.1, this.2.1, by omega⟩
      · rw [fst_no c k]
        have := fst_is S s n ((lo + hi) / 2) hi (by omega) (by omega) hs
        exact ⟨this.1, by omega, this.2.2⟩
    · rw [fst_end c]; exact ⟨hs, h, Int.le_refl _⟩
theorem lst_fst (S : Int → Int) {p q : Int} (hpq : p ≠ q) : ∀ (n : Nat) (lo hi : Int), (hi - lo).toNat ≤ n → lo < hi → S lo = p → S hi = q → lstR S p lo hi < fstR S q lo hi
  | 0, lo, hi, hn, h, _, _ => by omega
  | n + 1, lo, hi, hn, h, hp, hq => by
    by_cases c : 1 < hi - lo
    · by_cases k : S ((lo + hi) / 2) = p
      · rw [lst_yes c k, fst_no c (by rw [k]; exact hpq)]
        exact lst_fst S hpq n _ _ (by omega) (by omega) k hq
      · by_cases k2 : S ((lo + hi) / 2) = q
        · rw [lst_no c k, fst_yes c k2]
          exact lst_fst S hpq n _ _ (by omega) (by omega) hp k2
        · rw [lst_no c k, fst_no c k2]
          have a := lst_is S p n lo ((lo + hi) / 2) (by omega) (by omega) hp
          have b := fst_is S q n ((lo + hi) / 2) hi (by omega) (by omega) hq
          omega
    · rw [lst_end c, fst_end c]; exact h
structure CrV where
  lo : Int
  hi : Int
  up : Bool
def smp (f t : Int) : List Int := if f < t then f :: smp (f + 1200000) t else [t]
  termination_by (t - f).toNat
  decreasing_by omega
theorem smp_lt {f t : Int} (h : f < t) : smp f t = f :: smp (f + 1200000) t := by rw [smp, if_pos h]
theorem smp_end {f t : Int} (h : ¬ f < t) : smp f t = [t] := by rw [smp, if_neg h]
def crF (S : Int → Int) : List Int → Int → Int → List CrV
  | [], _, _ => []
  | t :: l, a, k => if S t = 0 then crF S l a k else (if k ≠ 0 ∧ S t ≠ k then [⟨lstR S k a t, fstR S (S t) a t, decide (k < 0)⟩] else []) ++ crF S l t (S t)
theorem cr_zero {S : Int → Int} {t a k : Int} {l : List Int} (h : S t = 0) : crF S (t :: l) a k = crF S l a k := by conv => lhs; unfold crF; rw [if_pos h]
theorem cr_same {S : Int → Int} {t a k : Int} {l : List Int} (h : S t ≠ 0) (g : k = 0 ∨ S t = k) : crF S (t :: l) a k = crF S l t (S t) := by
  conv => lhs; unfold crF
  rw [if_neg h, if_neg (by rcases g with g | g <;> simp [g])]
  rfl
theorem cr_cross {S : Int → Int} {t a k : Int} {l : List Int} (h : S t ≠ 0) (g : k ≠ 0) (g2 : S t ≠ k) : crF S (t :: l) a k = ⟨lstR S k a t, fstR S (S t) a t, decide (k < 0)⟩ :: crF S l t (S t) := by
  conv => lhs; unfold crF
  rw [if_neg h, if_pos ⟨g, g2⟩]
  rfl
def erF (E : Int → Int) : List Int → Int
  | [] => 0
  | t :: l => if E t = 0 then erF E l else E t
end Go.Proofs.YthjfadfebhjhbaaGreat

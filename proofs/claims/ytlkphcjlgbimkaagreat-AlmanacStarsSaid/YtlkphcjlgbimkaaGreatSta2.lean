/- Stars: their numbers, the index of a name. -/
import Derived.Test.YtlkphcjlgbimkaaGreatProg
import Derived.Test.YtlkphcjlgbimkaaGreatLay
import Derived.Test.YtlkphcjlgbimkaaGreatRegion
import Derived.Test.YtlkphcjlgbimkaaGreatMix
import Derived.WalkKit
import Derived.WalkSpells
import Derived.WalkLawsBesides
import Derived.Lib.Hide
import Derived.BigQuiet
import Derived.Test.YtlkphcjlgbimkaaGreatSta1
namespace Go.Proofs.YtlkphcjlgbimkaaGreat
open Go.RowKit Go.Shelf

def numB (a b c : Int) : Bool := decide ((0 ≤ a ∧ a ≤ 215999) ∧ (-54000 ≤ b ∧ b ≤ 54000) ∧ -20 ≤ c ∧ c ≤ 150)
set_option maxHeartbeats 1000000 in
theorem cat_numbers (s : ByteArray) (a b c : Int) (w : World) :
    Calls Tryz.prog 146 #[.agg #[.string s, .int .i64 a, .int .i64 b, .int .i64 c]] w fun e w' => e = .returned (.bool (numB a b c)) ∧ ∃ d, w' = bw w d := by
  refine lay_start ?_
  go_enter Tryz.func146, Tryz.ntmps146
  go_wp2
  all_goals go_ret
  all_goals exact ⟨ret_bool (by first | (simp [numB, *]; done) | (rw [Bool.eq_iff_iff]; simp [numB, *]; done) | (rw [Bool.eq_iff_iff]; simp [numB]; omega)), lay_ex _ _⟩
set_option maxHeartbeats 1000000 in
theorem ref16_Star (s : ByteArray) (a b c : Int) (w : World) :
    Calls Tryz.prog 90 #[.agg #[.string s, .int .i64 a, .int .i64 b, .int .i64 c]] w fun e w' => e = .returned (.int .i64 (if numB a b c = true then 0 else 2)) ∧ ∃ d, w' = bw w d := by
  cases h : numB a b c
  · have hc : a < 0 ∨ (¬ a < 0 ∧ 215999 < a) ∨ (¬ a < 0 ∧ ¬ 215999 < a ∧ b < -54000) ∨ (¬ a < 0 ∧ ¬ 215999 < a ∧ ¬ b < -54000 ∧ 54000 < b) ∨ (¬ a < 0 ∧ ¬ 215999 < a ∧ ¬ b < -54000 ∧ ¬ 54000 < b ∧ c < -20) ∨ (¬ a < 0 ∧ ¬ 215999 < a ∧ ¬ b < -54000 ∧ ¬ 54000 < b ∧ ¬ c < -20 ∧ 150 < c) := by
      simp only [numB, decide_eq_false_iff_not] at h
      omega
    rw [if_neg (by decide)]
    clear h
    rcases hc with h1 | ⟨h1, h2⟩ | ⟨h1, h2, h3⟩ | ⟨h1, h2, h3, h4⟩ | ⟨h1, h2, h3, h4, h5⟩ | ⟨h1, h2, h3, h4, h5, h6⟩
    all_goals
      refine lay_start ?_
      go_enter Tryz.func90, Tryz.ntmps90
      go_wp2
      go_ret
      exact ⟨rfl, lay_ex _ _⟩
  · obtain ⟨⟨h1, h2⟩, ⟨h3, h4⟩, h5, h6⟩ : (0 ≤ a ∧ a ≤ 215999) ∧ (-54000 ≤ b ∧ b ≤ 54000) ∧ -20 ≤ c ∧ c ≤ 150 := by simpa [numB] using h
    rw [if_pos rfl]
    clear h
    refine lay_start ?_
    go_enter Tryz.func90, Tryz.ntmps90
    go_wp2
    go_ret
    exact ⟨rfl, lay_ex _ _⟩
/-- Two names are equal. -/
def nmB (a b : ByteArray) : Bool := a.toList == b.toList
set_option maxHeartbeats 1000000 in
theorem cat_index1 (x : StarV) (s : ByteArray) (b : Nat) (w : World) (hb : b < w.heap.size) (hc : w.cell? ⟨b, 0, none⟩ = some (.string s)) :
    Calls Tryz.prog 170 #[.agg #[.string x.s, .int .i64 x.sha, .int .i64 x.dec, .int .i64 x.mag], .pointer (some ⟨b, 0, none⟩)] w fun e w' => e = .returned (.bool (nmB x.s s)) ∧ ∃ d, w' = bw w d := by
  obtain ⟨xs, x1, x2, x3⟩ := x
  dsimp only
  refine lay_start ?_
  go_enter Tryz.func170, Tryz.ntmps170
  go_wp2
  go_ret
  exact ⟨rfl, lay_ex _ _⟩
/-- The place of the first star with a name, or -1. -/
def fndS (l : List StarV) (s : ByteArray) : Int := idxR (fun x => nmB x.s s) l 0
set_option maxHeartbeats 1000000 in
theorem cat_index (v : Value) (l : List StarV) (s : ByteArray) (w : World) (hv : SlG stR w v l) :
    Calls Tryz.prog 147 #[v, .string s] w (IdxPost w (fndS l s)) := by
  have eI : ∀ args w, (callFunc 170 args).run Tryz.prog w = .ok (.enter 170 args) w := enters_of Tryz.func170 (by kernel_rfl) rfl
  have H := Lib.hid (st_IndexFunc 170 [.pointer (some ⟨posn w [], 0, none⟩)] (fun x => nmB x.s s) v l (lay w [.inl (.cells #[.string s] 9 (0, 0))]) (hv.lay _) eI (fun x _ d =>
    cat_index1 x s (posn w []) (lay w [.inr d, .inl (.cells #[.string s] 9 (0, 0))]) (by simp only [lay_size, shp, posn, List.sum_cons, List.sum_nil, Ext.n]; omega) (by simp [go_sem]) |>.mono fun e w' ⟨h1, d2, h2⟩ => ⟨h1, _, h2.trans (bw_bw _ _ _)⟩))
  obtain ⟨a, c, rfl⟩ := hv.form
  unfold fndS
  generalize idxR (fun x => nmB x.s s) l 0 = I at *
  generalize l.length = m at *
  clear eI hv
  refine lay_start ?_
  go_enter Tryz.func147, Tryz.ntmps147
  go_wp2_with fail
  refine H.out.mono ?_
  rintro e w' ⟨rfl, d1, rfl⟩
  rw [lay_bw]
  go_wp2
  go_ret
  exact ⟨rfl, lay_ex _ _⟩
set_option maxHeartbeats 1000000 in
theorem ref16_Find (v : Value) (l : List StarV) (s : ByteArray) (w : World) (hv : SlG stR w v l) :
    Calls Tryz.prog 70 #[v, .string s] w (IdxPost w (fndS l s)) := by
  unfold fndS
  obtain ⟨p, hp⟩ : ∃ p : StarV → Bool, (fun x => nmB x.s s) = p := ⟨_, rfl⟩
  rw [hp]
  have HPn : Hid (∀ x : StarV, p x = (x.s.toList == s.toList)) := Lib.hid (fun x => by rw [← hp]; rfl)
  clear hp
  by_cases hz : l = []
  · subst hz
    obtain ⟨a, cap, rfl⟩ := hv.form
    refine lay_start ?_
    go_enter Tryz.func70, Tryz.ntmps70
    go_wp2_with fail
    refine wp_loop_rounds 1 ?_
    rw [rounds_succ]
    go_wp2
    go_ret
    exact ⟨rfl, lay_ex _ _⟩
  · obtain ⟨b, o, cap, rfl, hc, hb, hr⟩ := hv.open (List.length_pos_iff.2 hz)
    obtain ⟨m, hm⟩ : ∃ m, l.length = m := ⟨_, rfl⟩
    have HM := Lib.hid hm
    rw [hm] at hc ⊢
    have HR : Hid (∀ i x, l[i]? = some x → w.cell? ⟨b, o + i * 4, none⟩ = some (.string x.s)) := Lib.hid (fun i x hx => hr i x hx 0 _ rfl)
    clear hz hm hr hv
    refine lay_start ?_
    go_enter Tryz.func70, Tryz.ntmps70
    go_wp2_with fail
    go_loopw [5] (fun i wr => ∃ (k : Nat) (d : Ext), k ≤ m ∧ i = .int .i64 k ∧ wr = lay w [.inr d] ∧ idxR p l 0 = idxR p (l.drop k) k) (fun i _ => m - (intOf i).toNat)
    case atStart => exact ⟨0, noExt _, Nat.zero_le _, rfl, (bw_noExt _).symm, rfl⟩
    case round =>
      obtain ⟨k, d, hk, rfl, rfl, hA⟩ := hrel
      have HA := Lib.hid hA
      clear hA
      by_cases hlt : k < m
      · obtain ⟨x, hx⟩ : ∃ x, l[k]? = some x := ⟨_, List.getElem?_eq_getElem (by rw [HM.out]; exact hlt)⟩
        have e0 := HR.out k x hx
        have x1 : (k : Int) < (m : Int) := by omega
        have x0 : (0 : Int) ≤ (k : Int) := by omega
        have hpx := HPn.out x
        cases ho : p x
        · have HN := Lib.hid (idxR_miss hx ho HA.out)
          rw [ho] at hpx
          have t1 := hpx.symm
          clear ho hx hpx
          generalize x.s = xs at *
          go_wp2_with fail
          go_roundw
          case rel => exact ⟨k + 1, d, by omega, by go_num, rfl, HN.out⟩
          case measure => simp [intOf]; omega
        · have HN := Lib.hid (idxR_got hx ho HA.out)
          rw [ho] at hpx
          have t1 := hpx.symm
          clear ho hx hpx
          generalize x.s = xs at *
          go_wp2_with fail
          go_ret
          exact ⟨ret_int HN.out, lay_ex _ _⟩
      · have HN := Lib.hid (idxR_end (k := k) (by rw [HM.out]; omega) HA.out)
        have x1 : ¬ (k : Int) < (m : Int) := by omega
        go_wp2
        go_ret
        exact ⟨ret_int HN.out, lay_ex _ _⟩
end Go.Proofs.YtlkphcjlgbimkaaGreat

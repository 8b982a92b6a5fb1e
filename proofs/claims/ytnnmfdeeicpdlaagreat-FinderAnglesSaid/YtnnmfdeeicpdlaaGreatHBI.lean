/- Contracts and plain laws, several texts in one: Nr4; Nq2; Dih; Dii; Nd1 -/
import Derived.Test.YtnnmfdeeicpdlaaGreatProg
import Derived.WalkKit
import Derived.WalkSpells
import Derived.WalkLawsBesides
import Derived.Lib.Hide
import Derived.BigQuiet
import Derived.Test.YtnnmfdeeicpdlaaGreatHAC
import Derived.Test.YtnnmfdeeicpdlaaGreatHAD
import Derived.Test.YtnnmfdeeicpdlaaGreatHAE
import Derived.Test.YtnnmfdeeicpdlaaGreatHBA
import Derived.Test.YtnnmfdeeicpdlaaGreatHBD
import Derived.Test.YtnnmfdeeicpdlaaGreatHBH
/- The reference's limbs: small, Near. -/
namespace Go.Proofs.YtnnmfdeeicpdlaaGreat
set_option maxHeartbeats 4000000
set_option maxRecDepth 100000
open Go.RowKit

def mK (k : Nat) : Nat := if k = 3 then m84 else m112
def qK (k : Nat) : Nat := if k = 3 then q84 else q112
theorem mokK {k : Nat} (hk : k = 3 ∨ k = 4) : MOk (mK k) (piK k) (qK k) := by
  rcases hk with rfl | rfl
  · exact mok84
  · exact mok112
theorem mK_val {k : Nat} (hk : k = 3 ∨ k = 4) : ((mK k : Nat) : Int) = dB ^ k ∧ mK k ≤ 2 ^ 112 := by
  rcases hk with rfl | rfl
  · decide +kernel
  · decide +kernel
theorem num_f0 (a : Option Addr) (n c : Nat) (g : Bool) (W : World) : (Instr.field 276 (.agg #[.slice a n c, .bool g]) 0).run Tryz.prog W = .ok (.slice a n c) W := by kernel_rfl
def smM (k r : Nat) (b : Bool) : Int := if b = true then cosM (mK k) (piK k) r else sinM (mK k) (piK k) r
theorem r6_small (r k : Nat) (b : Bool) (w : World) (hr : r ≤ 2700000) (hk : k = 3 ∨ k = 4) :
    Calls Tryz.prog 337 #[.int .i64 (r : Int), .bool b, .int .i64 (k : Int)] w (RwD w fun l => Can l ∧ valD l = smM k r b ∧ l.length ≤ 300) := by
  obtain ⟨hM1, hM2⟩ := mK_val hk
  obtain ⟨q1, q2, -, -⟩ := sqM_near (mokK hk) (r := r) hr
  have hQ := Lib.hid (And.intro hM1 (And.intro hM2 (And.intro q1 q2)))
  have HPi := Lib.hid (fun W => r6_Pi k hk W)
  have HOf := Lib.hid (fun W => dg_OfInt (r : Int) W (by omega))
  have HTi := Lib.hid (fun W va vb a b (ha : Sl W va a) (hb : Sl W vb b) (ca : Dg a) (cb : Dg b) (la : a.length ≤ 400000) (lb : b.length ≤ 400000) => dg_Times va vb a b W ha hb ca cb la lb)
  have HPa := Lib.hid (fun W v l (h : Sl W v l) (c : Dg l) (la : l.length ≤ 100000) => r6_Part v l 10800000 W h c (by decide) (by decide) la)
  have HDr := Lib.hid (fun W v l (h : Sl W v l) => r6_Drop v l k W h)
  have HUn := Lib.hid (fun W => r6_Unit k (by omega) W)
  have HSe := Lib.hid (fun W vf vs fl sl (d0 t0 s : Nat) (hf : Sl W vf fl) (hs : Sl W vs sl) (cf : Can fl) (cs : Can sl) (ht0 : valD fl = (t0 : Int)) (hss : valD sl = (s : Int)) (h1 : t0 ≤ mK k) (h2 : s ≤ mK k) (hd1 : 1 ≤ d0) (hd2 : d0 ≤ 2) => r6_series vf vs fl sl d0 k (mK k) t0 s W (by omega) hM1 hM2 hf hs cf cs ht0 hss h1 h2 hd1 hd2)
  have HK := Lib.hid hk
  have HR := Lib.hid hr
  clear hM1 hM2 q1 q2 hk hr
  refine lay_start ?_
  go_enter Tryz.func337, Tryz.ntmps337
  go_wp2_with fail
  refine (HPi.out _).mono ?_
  rintro e w' ⟨pl, pv, d1, ⟨pc, pe, pn⟩, rfl, rfl, hP⟩
  rw [lay_bw] at hP ⊢
  have HP := Lib.hid (And.intro hP.sl (And.intro pc (And.intro pe pn)))
  clear hP pc pe pn
  go_wp2_with fail
  refine (HOf.out _).mono ?_
  rintro e w' ⟨v, d2, rfl, rfl, oa, oc, ol, og, rfl, hO, ok, on⟩
  rw [lay_bw] at hO ⊢
  have HO := Lib.hid (And.intro hO.sl (And.intro ok on))
  have hf0 := num_f0 oa ol.length oc og (lay w [.inr d2, .inr d1])
  clear hO ok on
  go_wp2_with fail
  clear hf0
  refine (HTi.out (lay w [.inr d2, .inr d1]) _ _ _ _ (sl_on (A := [.inr d2]) HP.out.1) HO.out.1 HP.out.2.1.1 HO.out.2.1.can.1 (by have := HP.out.2.2.2; have := HK.out; omega) (by have := HO.out.2.2; omega)).mono ?_
  rintro e w' ⟨xl, xv, d3, ⟨xc, xe, xn⟩, rfl, rfl, hX⟩
  rw [lay_bw] at hX ⊢
  have HX := Lib.hid (And.intro hX.sl (And.intro xc (And.intro xe xn)))
  clear hX xc xe xn
  go_wp2_with fail
  refine (HPa.out _ _ _ HX.out.1 HX.out.2.1.1 (by have := HX.out.2.2.2; have := HP.out.2.2.2; have := HO.out.2.2; have := HK.out; omega)).mono ?_
  rintro e w' ⟨yl, yv, d4, ⟨yc, ye, yn⟩, rfl, rfl, hY⟩
  rw [lay_bw] at hY ⊢
  have hyt : valD yl = ((tM (piK k) r : Nat) : Int) := by
    rw [ye, HX.out.2.2.1, HP.out.2.2.1, HO.out.2.1.abs]
    unfold tM
    rw [Int.natAbs_natCast, Int.mul_comm, ← Int.natCast_mul]
    first | exact (Int.natCast_ediv (r * piK k) 10800000).symm | exact (Int.ofNat_ediv (r * piK k) 10800000).symm
  have hyn : yl.length ≤ 10 := by have := HX.out.2.2.2; have := HP.out.2.2.2; have := HO.out.2.2; have := HK.out; omega
  obtain ⟨ya, yk, rfl⟩ := sl_form hY.sl
  have HY := Lib.hid (And.intro hY.sl (And.intro yc (And.intro hyt hyn)))
  clear hY yc ye yn hyt hyn
  go_wp2_with fail
  refine (HTi.out _ _ _ _ _ HY.out.1 HY.out.1 HY.out.2.1.1 HY.out.2.1.1 (by have := HY.out.2.2.2; omega) (by have := HY.out.2.2.2; omega)).mono ?_
  rintro e w' ⟨zl, zv, d5, ⟨zc, ze, zn⟩, rfl, rfl, hZ⟩
  rw [lay_bw] at hZ ⊢
  have HZ := Lib.hid (And.intro hZ.sl (And.intro zc (And.intro ze zn)))
  clear hZ zc ze zn
  go_wp2_with fail
  refine (HDr.out _ _ _ HZ.out.1).mono ?_
  rintro e w' ⟨sv, d6, rfl, rfl, hS⟩
  rw [lay_bw] at hS ⊢
  have hsq : valD (zl.drop k) = ((sqM (mK k) (piK k) r : Nat) : Int) := by
    rw [drop_val HZ.out.2.1.1, HZ.out.2.2.1, HY.out.2.2.1, ← hQ.out.1]
    unfold sqM
    push_cast
    rfl
  have HS := Lib.hid (And.intro hS (And.intro (drop_can HZ.out.2.1 k) hsq))
  clear hS hsq
  cases b
  · go_wp2_with fail
    refine (HSe.out _ _ _ _ _ 2 _ _ (sl_on (A := [_, _]) HY.out.1) HS.out.1 HY.out.2.1 HS.out.2.1 HY.out.2.2.1 HS.out.2.2 hQ.out.2.2.2 hQ.out.2.2.1 (by decide) (by decide)).mono ?_
    rintro e w' ⟨rl, rv, d7, ⟨rc, re, rn⟩, rfl, rfl, hR⟩
    rw [lay_bw] at hR ⊢
    have HRR := Lib.hid (And.intro hR (And.intro rc (And.intro re rn)))
    clear hR rc re rn
    go_wp2_with fail
    go_ret
    obtain ⟨y, hy⟩ := lay_ex w [.inr d7, .inr d6, .inr d5, .inr d4, .inr d3, .inr d2, .inr d1]
    refine ⟨rl, _, y, ⟨HRR.out.2.1, HRR.out.2.2.1, HRR.out.2.2.2⟩, rfl, hy, ?_⟩
    rw [← hy]
    exact HRR.out.1.le (lay_below (w := w) (A := [.inr d6, .inr d5, .inr d4, .inr d3, .inr d2, .inr d1]) (B := [])).size
  · go_wp2_with fail
    refine (HUn.out _).mono ?_
    rintro e w' ⟨ul, uv, d8, ⟨uc, ue, un⟩, rfl, rfl, hU⟩
    rw [lay_bw] at hU ⊢
    have HU := Lib.hid (And.intro hU.sl (And.intro uc (show valD ul = ((mK k : Nat) : Int) by rw [ue, hQ.out.1])))
    clear hU uc ue un
    go_wp2_with fail
    refine (HSe.out _ _ _ _ _ 1 _ _ HU.out.1 (sl_on (A := [_]) HS.out.1) HU.out.2.1 HS.out.2.1 HU.out.2.2 HS.out.2.2 (Nat.le_refl _) hQ.out.2.2.1 (by decide) (by decide)).mono ?_
    rintro e w' ⟨rl, rv, d7, ⟨rc, re, rn⟩, rfl, rfl, hR⟩
    rw [lay_bw] at hR ⊢
    have HRR := Lib.hid (And.intro hR (And.intro rc (And.intro re rn)))
    clear hR rc re rn
    go_wp2_with fail
    go_ret
    obtain ⟨y, hy⟩ := lay_ex w [.inr d7, .inr d8, .inr d6, .inr d5, .inr d4, .inr d3, .inr d2, .inr d1]
    refine ⟨rl, _, y, ⟨HRR.out.2.1, HRR.out.2.2.1, HRR.out.2.2.2⟩, rfl, hy, ?_⟩
    rw [← hy]
    exact HRR.out.1.le (lay_below (w := w) (A := [.inr d8, .inr d6, .inr d5, .inr d4, .inr d3, .inr d2, .inr d1]) (B := [])).size
theorem numk_pos {l : List Int} (h : Can l) : NumK false l (valD l) := by
  have := NumK.sign (neg := false) h
  rwa [show numV false l = valD l from rfl, show (if l = [] then false else false) = false by split <;> rfl] at this
theorem r6_NearW (n k q r m : Nat) (b : Bool) (z : Int) (w : World) (hk : k = 3 ∨ k = 4) (hm : m ≤ 2700000) (hq : q = 0 ∨ q = 1) (hn : n = 5400000 * q + r) (hr : r < 5400000) (hc : (r ≤ 2700000 ∧ m = r ∧ b = decide (q = 1)) ∨ (2700000 < r ∧ m = 5400000 - r ∧ b = !decide (q = 1))) (hz : smM k m b = z) :
    Calls Tryz.prog 295 #[.int .i64 (n : Int), .int .i64 (k : Int)] w (NmPO w z 300) := by
  have HSm := Lib.hid (fun W => r6_small m k b W hm hk)
  rw [hz] at HSm
  have e1 : (n : Int).tmod 21600000 = (n : Int) := by rw [Int.tmod_eq_emod_of_nonneg (by omega)]; omega
  have e2 : (n : Int).tdiv 5400000 = (q : Int) := by rw [Int.tdiv_eq_ediv_of_nonneg (by omega)]; omega
  have e3 : (n : Int).tmod 5400000 = (r : Int) := by rw [Int.tmod_eq_emod_of_nonneg (by omega)]; omega
  have f1 : (n : Int) % 21600000 = (n : Int) := by omega
  have f2 : (n : Int) / 5400000 = (q : Int) := by omega
  have f3 : (n : Int) % 5400000 = (r : Int) := by omega
  have x0 : (0 : Int) ≤ (n : Int) := by omega
  have y0 : (0 : Int) ≤ (r : Int) := by omega
  have kn : IntKind.i64.wrap (n : Int) = (n : Int) := IntWalk.i64_in _ (by omega)
  have kr : IntKind.i64.wrap (r : Int) = (r : Int) := IntWalk.i64_in _ (by omega)
  have hfin : ∀ (l : List Int) (A : Option Addr) (c : Nat) (d1 : Ext) (w' : World), w' = lay w [.inr d1, .inl (.cells #[.slice A l.length c, .bool false] 276 (0, 0))] → Can l → valD l = z → l.length ≤ 300 → Ow (lay w [.inr d1, .inl (.cells #[.slice none 0 0, .bool false] 276 (0, 0))]) (lay w [.inl (.cells #[.slice none 0 0, .bool false] 276 (0, 0))]).heap.size (.slice A l.length c) l → ∃ d, w' = bw w d ∧ NmKO (bw w d) w.heap.size (.agg #[.slice A l.length c, .bool false]) z 300 := by
    rintro l A c d1 w' rfl hc hv hl ho
    obtain ⟨y, hy⟩ := lay_ex w [.inr d1, .inl (.cells #[.slice A l.length c, .bool false] 276 (0, 0))]
    refine ⟨y, hy, A, c, l, false, rfl, ?_, by rw [← hv]; exact numk_pos hc, hl⟩
    rw [← hy]
    exact (ow_swap (.cells #[.slice A l.length c, .bool false] 276 (0, 0)) (lay_lt w _ _) ho).le (lay_extends w _).size
  have HF := Lib.hid hfin
  clear hfin hn
  rcases hq with rfl | rfl
  · rcases hc with ⟨c1, rfl, rfl⟩ | ⟨c1, rfl, rfl⟩
    · have c2 : ¬ (2700000 : Int) < (m : Int) := by omega
      rw [show decide (((0 : Nat)) = 1) = false from rfl] at HSm
      try rw [show (!true) = false from rfl] at HSm
      try rw [show (!false) = true from rfl] at HSm
      refine lay_start ?_
      go_enter Tryz.func295, Tryz.ntmps295
      go_wp2_with fail
      try simp only [f1, f2, f3]
      try rw [show (!false) = (!(false : Bool)) from rfl]
      try rw [show (((((0 : Nat)) : Int) % 2 == 1) : Bool) = false from rfl]
      clear e1 e2 e3 f1 f2 f3
      with_reducible refine (HSm.out _).mono ?_
      rintro e w' ⟨l, v, d1, ⟨hc, hv, hl⟩, rfl, rfl, hO⟩
      rw [lay_bw] at hO ⊢
      obtain ⟨A, c, rfl⟩ := hO.form
      have HFF := Lib.hid (HF.out l A c d1 _ rfl hc hv hl hO)
      obtain ⟨n1, hn1⟩ : ∃ n1, l.length = n1 := ⟨_, rfl⟩
      rw [hn1] at HFF ⊢
      clear hc hv hl hO HF HSm
      go_wp2_with fail
      refine bodyPost_ret (v := .agg #[.slice A n1 c, .bool false]) (by simp [results, Tryz.results295, go_sem]) rfl ?_
      obtain ⟨y, hy, hk2⟩ := HFF.out
      exact ⟨_, y, rfl, hy, hk2⟩
    · obtain ⟨m2, hm2⟩ : ∃ m2, 5400000 - r = m2 := ⟨_, rfl⟩
      rw [hm2] at HSm
      have c2 : (2700000 : Int) < (r : Int) := by omega
      have c3 : (5400000 : Int) - (r : Int) = (m2 : Int) := by omega
      have km : IntKind.i64.wrap (m2 : Int) = (m2 : Int) := IntWalk.i64_in _ (by omega)
      rw [show decide (((0 : Nat)) = 1) = false from rfl] at HSm
      try rw [show (!true) = false from rfl] at HSm
      try rw [show (!false) = true from rfl] at HSm
      refine lay_start ?_
      go_enter Tryz.func295, Tryz.ntmps295
      go_wp2_with fail
      try simp only [f1, f2, f3]
      try rw [show (!false) = (!(false : Bool)) from rfl]
      try rw [show (((((0 : Nat)) : Int) % 2 == 1) : Bool) = false from rfl]
      clear e1 e2 e3 f1 f2 f3
      with_reducible refine (HSm.out _).mono ?_
      rintro e w' ⟨l, v, d1, ⟨hc, hv, hl⟩, rfl, rfl, hO⟩
      rw [lay_bw] at hO ⊢
      obtain ⟨A, c, rfl⟩ := hO.form
      have HFF := Lib.hid (HF.out l A c d1 _ rfl hc hv hl hO)
      obtain ⟨n1, hn1⟩ : ∃ n1, l.length = n1 := ⟨_, rfl⟩
      rw [hn1] at HFF ⊢
      clear hc hv hl hO HF HSm
      go_wp2_with fail
      refine bodyPost_ret (v := .agg #[.slice A n1 c, .bool false]) (by simp [results, Tryz.results295, go_sem]) rfl ?_
      obtain ⟨y, hy, hk2⟩ := HFF.out
      exact ⟨_, y, rfl, hy, hk2⟩
  · rcases hc with ⟨c1, rfl, rfl⟩ | ⟨c1, rfl, rfl⟩
    · have c2 : ¬ (2700000 : Int) < (m : Int) := by omega
      rw [show decide (((1 : Nat)) = 1) = true from rfl] at HSm
      try rw [show (!true) = false from rfl] at HSm
      try rw [show (!false) = true from rfl] at HSm
      refine lay_start ?_
      go_enter Tryz.func295, Tryz.ntmps295
      go_wp2_with fail
      try simp only [f1, f2, f3]
      try rw [show (!true) = (!(true : Bool)) from rfl]
      try rw [show (((((1 : Nat)) : Int) % 2 == 1) : Bool) = true from rfl]
      clear e1 e2 e3 f1 f2 f3
      with_reducible refine (HSm.out _).mono ?_
      rintro e w' ⟨l, v, d1, ⟨hc, hv, hl⟩, rfl, rfl, hO⟩
      rw [lay_bw] at hO ⊢
      obtain ⟨A, c, rfl⟩ := hO.form
      have HFF := Lib.hid (HF.out l A c d1 _ rfl hc hv hl hO)
      obtain ⟨n1, hn1⟩ : ∃ n1, l.length = n1 := ⟨_, rfl⟩
      rw [hn1] at HFF ⊢
      clear hc hv hl hO HF HSm
      go_wp2_with fail
      refine bodyPost_ret (v := .agg #[.slice A n1 c, .bool false]) (by simp [results, Tryz.results295, go_sem]) rfl ?_
      obtain ⟨y, hy, hk2⟩ := HFF.out
      exact ⟨_, y, rfl, hy, hk2⟩
    · obtain ⟨m2, hm2⟩ : ∃ m2, 5400000 - r = m2 := ⟨_, rfl⟩
      rw [hm2] at HSm
      have c2 : (2700000 : Int) < (r : Int) := by omega
      have c3 : (5400000 : Int) - (r : Int) = (m2 : Int) := by omega
      have km : IntKind.i64.wrap (m2 : Int) = (m2 : Int) := IntWalk.i64_in _ (by omega)
      rw [show decide (((1 : Nat)) = 1) = true from rfl] at HSm
      try rw [show (!true) = false from rfl] at HSm
      try rw [show (!false) = true from rfl] at HSm
      refine lay_start ?_
      go_enter Tryz.func295, Tryz.ntmps295
      go_wp2_with fail
      try simp only [f1, f2, f3]
      try rw [show (!true) = (!(true : Bool)) from rfl]
      try rw [show (((((1 : Nat)) : Int) % 2 == 1) : Bool) = true from rfl]
      clear e1 e2 e3 f1 f2 f3
      with_reducible refine (HSm.out _).mono ?_
      rintro e w' ⟨l, v, d1, ⟨hc, hv, hl⟩, rfl, rfl, hO⟩
      rw [lay_bw] at hO ⊢
      obtain ⟨A, c, rfl⟩ := hO.form
      have HFF := Lib.hid (HF.out l A c d1 _ rfl hc hv hl hO)
      obtain ⟨n1, hn1⟩ : ∃ n1, l.length = n1 := ⟨_, rfl⟩
      rw [hn1] at HFF ⊢
      clear hc hv hl hO HF HSm
      go_wp2_with fail
      refine bodyPost_ret (v := .agg #[.slice A n1 c, .bool false]) (by simp [results, Tryz.results295, go_sem]) rfl ?_
      obtain ⟨y, hy, hk2⟩ := HFF.out
      exact ⟨_, y, rfl, hy, hk2⟩
end Go.Proofs.YtnnmfdeeicpdlaaGreat
/- The reference's quick side. -/
namespace Go.Proofs.YtnnmfdeeicpdlaaGreat
open Go.RowKit

theorem i64_and30 (n : Int) : bits .and .i64 n 1073741823 = n % 1073741824 := by
  have h127 : (BitVec.ofInt 64 1073741823).toNat = 2 ^ 30 - 1 := by decide
  have key : (BitVec.ofInt 64 n &&& BitVec.ofInt 64 1073741823).toNat = (n % ((2 ^ 64 : Nat) : Int)).toNat % 2 ^ 30 := by
    rw [BitVec.toNat_and, BitVec.toNat_ofInt, h127, Nat.and_two_pow_sub_one_eq_mod]
  show IntKind.i64.wrap ((BitVec.ofInt 64 n &&& BitVec.ofInt 64 1073741823).toNat : Nat) = n % 1073741824
  rw [key, IntKind.wrap_i64]
  omega
set_option maxHeartbeats 4000000 in
set_option maxRecDepth 100000 in
theorem r6_quickSide (n : Nat) (x y : Int) (w : World) (h1 : 1 ≤ n) (hn : n < 5400000) (x0 : 0 ≤ x) (x1 : x ≤ 2147483648) (y0 : 0 ≤ y) (y1 : y ≤ 2147483648) :
    Calls Tryz.prog 304 #[.int .i64 (n : Int), .int .i64 x, .int .i64 y] w fun e w' => e = .returned (.int .i64 (qsV n x y)) ∧ ∃ d, w' = bw w d := by
  obtain ⟨g1, g2⟩ := qck_nearU hn
  obtain ⟨⟨s1, s2⟩, c1, c2⟩ := sU_in h1 hn
  obtain ⟨a1, a2⟩ := qck_pos g1 s1 s2
  obtain ⟨b1, b2⟩ := qck_pos g2 c1 c2
  have hq : (q62 : Int) = 4611686018427388200 := rfl
  have HQ1 := Lib.hid (fun W => r6_Quick (n : Int) W)
  have HQ2 := Lib.hid (fun W => r6_Quick ((n : Int) + 5400000) W)
  have kn2 : IntKind.i64.wrap ((n : Int) + 5400000) = (n : Int) + 5400000 := IntWalk.i64_in _ (by omega)
  have hT : qsT n x y = x * (qsS n / 1073741824) - y * (qsC n / 1073741824) + (x * (qsS n % 1073741824) - y * (qsC n % 1073741824)) / 1073741824 := (qs_split x y (qsS n) (qsC n)).symm
  have eS : qckV (n : Int) / 4 = qsS n := rfl
  have eC : qckV ((n : Int) + 5400000) / 4 = qsC n := rfl
  unfold qsV
  generalize qckV (n : Int) = QS at *
  generalize qckV ((n : Int) + 5400000) = QC at *
  generalize qsS n = S at *
  generalize qsC n = C at *
  generalize qsT n x y = T at *
  have aS := i64_and30 S
  have aC := i64_and30 C
  have kS : IntKind.i64.wrap S = S := IntWalk.i64_in _ (by omega)
  have kC : IntKind.i64.wrap C = C := IntWalk.i64_in _ (by omega)
  obtain ⟨S1, hS1⟩ : ∃ v, S / 1073741824 = v := ⟨_, rfl⟩
  obtain ⟨C1, hC1⟩ : ∃ v, C / 1073741824 = v := ⟨_, rfl⟩
  obtain ⟨S0, hS0⟩ : ∃ v, S % 1073741824 = v := ⟨_, rfl⟩
  obtain ⟨C0, hC0⟩ : ∃ v, C % 1073741824 = v := ⟨_, rfl⟩
  rw [hS0] at aS
  rw [hC0] at aC
  rw [hS1, hC1, hS0, hC0] at hT
  have bS : 0 ≤ S1 ∧ S1 ≤ 1073741824 ∧ 0 ≤ S0 ∧ S0 ≤ 1073741824 := by omega
  have bC : 0 ≤ C1 ∧ C1 ≤ 1073741824 ∧ 0 ≤ C0 ∧ C0 ≤ 1073741824 := by omega
  have kS1 : IntKind.i64.wrap S1 = S1 := IntWalk.i64_in _ (by omega)
  have kC1 : IntKind.i64.wrap C1 = C1 := IntWalk.i64_in _ (by omega)
  have bb : ∀ {u v : Int}, 0 ≤ u → u ≤ 2147483648 → 0 ≤ v → v ≤ 1073741824 → 0 ≤ u * v ∧ u * v ≤ 2305843009213693952 := fun {u v} h1 h2 h3 h4 =>
    ⟨Int.mul_nonneg h1 h3, by have := Int.mul_le_mul h2 h4 h3 (show (0 : Int) ≤ 2147483648 by decide); omega⟩
  have e1 := bb x0 x1 bS.1 bS.2.1
  have e2 := bb y0 y1 bC.1 bC.2.1
  have e3 := bb x0 x1 bS.2.2.1 bS.2.2.2
  have e4 := bb y0 y1 bC.2.2.1 bC.2.2.2
  obtain ⟨p1, hp1⟩ : ∃ v, x * S1 = v := ⟨_, rfl⟩
  obtain ⟨p2, hp2⟩ : ∃ v, y * C1 = v := ⟨_, rfl⟩
  obtain ⟨p4, hp4⟩ : ∃ v, x * S0 = v := ⟨_, rfl⟩
  obtain ⟨p5, hp5⟩ : ∃ v, y * C0 = v := ⟨_, rfl⟩
  rw [hp1, hp2, hp4, hp5] at hT
  rw [hp1] at e1
  rw [hp2] at e2
  rw [hp4] at e3
  rw [hp5] at e4
  obtain ⟨p3, hp3⟩ : ∃ v, p1 - p2 = v := ⟨_, rfl⟩
  obtain ⟨p6, hp6⟩ : ∃ v, p4 - p5 = v := ⟨_, rfl⟩
  rw [hp3, hp6] at hT
  obtain ⟨p7, hp7⟩ : ∃ v, p6 / 1073741824 = v := ⟨_, rfl⟩
  rw [hp7] at hT
  have k1 : IntKind.i64.wrap p1 = p1 := IntWalk.i64_in _ (by omega)
  have k2 : IntKind.i64.wrap p2 = p2 := IntWalk.i64_in _ (by omega)
  have k3 : IntKind.i64.wrap p3 = p3 := IntWalk.i64_in _ (by omega)
  have k4 : IntKind.i64.wrap p4 = p4 := IntWalk.i64_in _ (by omega)
  have k5 : IntKind.i64.wrap p5 = p5 := IntWalk.i64_in _ (by omega)
  have k6 : IntKind.i64.wrap p6 = p6 := IntWalk.i64_in _ (by omega)
  have k7 : IntKind.i64.wrap p7 = p7 := IntWalk.i64_in _ (by omega)
  have kT : IntKind.i64.wrap T = T := IntWalk.i64_in _ (by omega)
  have kx : IntKind.i64.wrap (-x) = -x := IntWalk.i64_in _ (by omega)
  have ky : IntKind.i64.wrap (-y) = -y := IntWalk.i64_in _ (by omega)
  have mx1 : mx x (-x) = x := by rw [mx_eq]; omega
  have my1 : mx y (-y) = y := by rw [mx_eq]; omega
  have mx2 : max x (-x) = x := by omega
  have my2 : max y (-y) = y := by omega
  obtain ⟨Z, hZ⟩ : ∃ v, x + y = v := ⟨_, rfl⟩
  obtain ⟨Z65, hZ65⟩ : ∃ v, Z * 65 = v := ⟨_, rfl⟩
  obtain ⟨m, hm⟩ : ∃ v, Z65 / 1073741824 = v := ⟨_, rfl⟩
  obtain ⟨M, hM⟩ : ∃ v, m + 2 = v := ⟨_, rfl⟩
  have eM : qsM x y = M := by unfold qsM; rw [hZ, hZ65, hm, hM]
  rw [eM]
  have kZ : IntKind.i64.wrap Z = Z := IntWalk.i64_in _ (by omega)
  have kZ65 : IntKind.i64.wrap Z65 = Z65 := IntWalk.i64_in _ (by omega)
  have km : IntKind.i64.wrap m = m := IntWalk.i64_in _ (by omega)
  have kM : IntKind.i64.wrap M = M := IntWalk.i64_in _ (by omega)
  have kM2 : IntKind.i64.wrap (-M) = -M := IntWalk.i64_in _ (by omega)
  replace hT := hT.symm
  clear g1 g2 s1 s2 c1 c2 a1 a2 b1 b2 hq eM bS bC bb e1 e2 e3 e4 x0 x1 y0 y1 hn h1
  by_cases t1 : M < T
  · rw [if_pos t1]
    refine lay_start ?_
    go_enter Tryz.func304, Tryz.ntmps304
    go_wp2_with (go_at_call 293; first | ((with_reducible refine (HQ1.out _).mono ?_); rintro e w' ⟨rfl, d1, rfl⟩; rw [lay_bw]) | ((with_reducible refine (HQ2.out _).mono ?_); rintro e w' ⟨rfl, d2, rfl⟩; rw [lay_bw]))
    go_ret
    exact ⟨rfl, lay_ex _ _⟩
  · rw [if_neg t1]
    have u1 : decide (M < T) = false := decide_eq_false t1
    clear t1
    by_cases t2 : T < -M
    · rw [if_pos t2]
      have u2 : decide (T < -M) = true := decide_eq_true t2
      clear t2
      refine lay_start ?_
      go_enter Tryz.func304, Tryz.ntmps304
      go_wp2_with (go_at_call 293; first | ((with_reducible refine (HQ1.out _).mono ?_); rintro e w' ⟨rfl, d1, rfl⟩; rw [lay_bw]) | ((with_reducible refine (HQ2.out _).mono ?_); rintro e w' ⟨rfl, d2, rfl⟩; rw [lay_bw]))
      go_ret
      exact ⟨rfl, lay_ex _ _⟩
    · rw [if_neg t2]
      have u2 : decide (T < -M) = false := decide_eq_false t2
      clear t2
      refine lay_start ?_
      go_enter Tryz.func304, Tryz.ntmps304
      go_wp2_with (go_at_call 293; first | ((with_reducible refine (HQ1.out _).mono ?_); rintro e w' ⟨rfl, d1, rfl⟩; rw [lay_bw]) | ((with_reducible refine (HQ2.out _).mono ?_); rintro e w' ⟨rfl, d2, rfl⟩; rw [lay_bw]))
      go_ret
      exact ⟨rfl, lay_ex _ _⟩
end Go.Proofs.YtnnmfdeeicpdlaaGreat
/- The reference's numbers of digits: Down. -/
namespace Go.Proofs.YtnnmfdeeicpdlaaGreat
open Go.RowKit

end Go.Proofs.YtnnmfdeeicpdlaaGreat
/- The reference's numbers of digits: Compare. -/
namespace Go.Proofs.YtnnmfdeeicpdlaaGreat
open Go.RowKit

end Go.Proofs.YtnnmfdeeicpdlaaGreat
/- The reference's side of a direction: plain law; sign; the sines by limbs. -/
namespace Go.Proofs.YtnnmfdeeicpdlaaGreat
open Go.RowKit

def sgI (z : Int) : Int := if z < 0 then -1 else if 0 < z then 1 else 0
def sideV (n : Nat) (x y : Int) : Int := if n = 0 then sgI (-y) else if n = 2700000 then sgI (x - y) else if n = 5400000 then sgI x else if 0 < crU n x y then 1 else -1
theorem sideV_gen {n : Nat} {x y : Int} (h0 : n ≠ 0) (h1 : n ≠ 2700000) (h2 : n ≠ 5400000) : (0 < crU n x y → sideV n x y = 1) ∧ (crU n x y < 0 → sideV n x y = -1) := by
  unfold sideV
  rw [if_neg h0, if_neg h1, if_neg h2]
  refine ⟨fun h => if_pos h, fun h => if_neg ?_⟩
  intro h3
  generalize crU n x y = u at *
  grind
theorem r6_NearS (n k : Nat) (w : World) (hk : k = 3 ∨ k = 4) (hn : n < 5400000) :
    Calls Tryz.prog 295 #[.int .i64 (n : Int), .int .i64 (k : Int)] w (NmPO w (siM (mK k) (piK k) n) 300) := by
  by_cases c : n ≤ 2700000
  · refine r6_NearW n k 0 n n false _ w hk c (.inl rfl) (by omega) hn (.inl ⟨c, rfl, rfl⟩) ?_
    unfold smM siM
    rw [if_neg (by decide), if_neg (by omega)]
  · refine r6_NearW n k 0 n (5400000 - n) true _ w hk (by omega) (.inl rfl) (by omega) hn (.inr ⟨by omega, rfl, rfl⟩) ?_
    unfold smM siM
    rw [if_pos rfl, if_pos (by omega)]
theorem r6_NearC (n k : Nat) (w : World) (hk : k = 3 ∨ k = 4) (hn : n < 5400000) :
    Calls Tryz.prog 295 #[.int .i64 ((n : Int) + 5400000), .int .i64 (k : Int)] w (NmPO w (coM (mK k) (piK k) n) 300) := by
  rw [show (n : Int) + 5400000 = ((n + 5400000 : Nat) : Int) by omega]
  by_cases c : n ≤ 2700000
  · refine r6_NearW (n + 5400000) k 1 n n true _ w hk c (.inr rfl) (by omega) hn (.inl ⟨c, rfl, rfl⟩) ?_
    unfold smM coM
    rw [if_pos rfl, if_neg (by omega)]
  · refine r6_NearW (n + 5400000) k 1 n (5400000 - n) false _ w hk (by omega) (.inr rfl) (by omega) hn (.inr ⟨by omega, rfl, rfl⟩) ?_
    unfold smM coM
    rw [if_neg (by decide), if_pos (by omega)]
structure LimI (n k : Nat) (x y D : Int) : Prop where
  up : (e42 : Int) < D → sideV n x y = 1
  dn : D < -(e42 : Int) → sideV n x y = -1
  four : k = 4 → (e42 : Int) < D ∨ D < -(e42 : Int)
theorem lim_ok {n k : Nat} {x y : Int} (hF : FarU 2699999) (hk : k = 3 ∨ k = 4) (h0 : 1 ≤ n) (h1 : n ≠ 2700000) (h2 : n < 5400000) (x0 : 0 ≤ x) (x1 : x ≤ 2147483648) (y0 : 0 ≤ y) (y1 : y ≤ 2147483648) (hxy : x ≠ 0 ∨ y ≠ 0) :
    LimI n k x y (x * siM (mK k) (piK k) n + -(y * coM (mK k) (piK k) n)) := by
  have hf := far_cr hF (k := n) (by omega) x0 x1 y0 y1 hxy
  obtain ⟨s1, s2⟩ := sideV_gen (n := n) (x := x) (y := y) (by omega) h1 (by omega)
  have e : x * siM (mK k) (piK k) n + -(y * coM (mK k) (piK k) n) = crM (mK k) (piK k) n x y := by unfold crM; omega
  rw [e]
  have hb : 4294967296 * (620 * (1 / ((mK k : Nat) : Rat)) + tl50) < (e42 : Rat) * (1 / ((mK k : Nat) : Rat)) := by
    rcases hk with rfl | rfl
    · exact i84_ok
    · exact i112_ok.1
  obtain ⟨l1, l2⟩ := cr_limbs (mokK hk) hb (k := n) (by omega) x0 x1 y0 y1
  refine ⟨fun h => s1 (l1 h), fun h => s2 (l2 h), fun h4 => ?_⟩
  subst h4
  exact cr_four (by omega) x0 x1 y0 y1 hf
theorem qs_side {n : Nat} {x y : Int} (h0 : 1 ≤ n) (h1 : n ≠ 2700000) (h2 : n < 5400000) (x0 : 0 ≤ x) (y0 : 0 ≤ y) : qsV n x y = 0 ∨ (qsV n x y = sideV n x y ∧ (qsV n x y = 1 ∨ qsV n x y = -1)) := by
  obtain ⟨s1, s2⟩ := sideV_gen (n := n) (x := x) (y := y) (by omega) h1 (by omega)
  obtain ⟨q1, q2⟩ := qs_ok h2 x0 y0
  unfold qsV
  by_cases c1 : qsM x y < qsT n x y
  · rw [if_pos c1, s1 (q1 c1)]; exact .inr ⟨rfl, .inl rfl⟩
  · rw [if_neg c1]
    by_cases c2 : qsT n x y < -(qsM x y)
    · rw [if_pos c2, s2 (q2 c2)]; exact .inr ⟨rfl, .inr rfl⟩
    · rw [if_neg c2]; exact .inl rfl
theorem lay_same {w : World} {o o' : Obj} {T : List (Obj ⊕ Ext)} : ∀ A : List (Obj ⊕ Ext), (Go.Proofs.YtnnmfdeeicpdlaaGreat.lay w (A ++ .inl o :: T)).heap.size = (Go.Proofs.YtnnmfdeeicpdlaaGreat.lay w (A ++ .inl o' :: T)).heap.size ∧ ∀ i, i ≠ (Go.Proofs.YtnnmfdeeicpdlaaGreat.lay w T).heap.size → (Go.Proofs.YtnnmfdeeicpdlaaGreat.lay w (A ++ .inl o :: T)).heap[i]? = (Go.Proofs.YtnnmfdeeicpdlaaGreat.lay w (A ++ .inl o' :: T)).heap[i]?
  | [] => by
    refine ⟨?_, fun i hi => ?_⟩
    · show (World.alloc _ o).heap.size = (World.alloc _ o').heap.size
      rw [World.size_alloc, World.size_alloc]
    · show ((Go.Proofs.YtnnmfdeeicpdlaaGreat.lay w T).heap.push o)[i]? = ((Go.Proofs.YtnnmfdeeicpdlaaGreat.lay w T).heap.push o')[i]?
      rw [Array.getElem?_push, Array.getElem?_push, if_neg hi, if_neg hi]
  | .inl p :: A => by
    obtain ⟨h1, h2⟩ := lay_same (w := w) (o := o) (o' := o') (T := T) A
    refine ⟨?_, fun i hi => ?_⟩
    · show (World.alloc (Go.Proofs.YtnnmfdeeicpdlaaGreat.lay w (A ++ .inl o :: T)) p).heap.size = (World.alloc (Go.Proofs.YtnnmfdeeicpdlaaGreat.lay w (A ++ .inl o' :: T)) p).heap.size
      rw [World.size_alloc, World.size_alloc, h1]
    · show ((Go.Proofs.YtnnmfdeeicpdlaaGreat.lay w (A ++ .inl o :: T)).heap.push p)[i]? = ((Go.Proofs.YtnnmfdeeicpdlaaGreat.lay w (A ++ .inl o' :: T)).heap.push p)[i]?
      rw [Array.getElem?_push, Array.getElem?_push, h1, h2 i hi]
  | .inr e :: A => by
    obtain ⟨h1, h2⟩ := lay_same (w := w) (o := o) (o' := o') (T := T) A
    refine ⟨?_, fun i hi => ?_⟩
    · show ((Go.Proofs.YtnnmfdeeicpdlaaGreat.lay w (A ++ .inl o :: T)).heap ++ e.blocks).size = ((Go.Proofs.YtnnmfdeeicpdlaaGreat.lay w (A ++ .inl o' :: T)).heap ++ e.blocks).size
      rw [Array.size_append, Array.size_append, h1]
    · show ((Go.Proofs.YtnnmfdeeicpdlaaGreat.lay w (A ++ .inl o :: T)).heap ++ e.blocks)[i]? = ((Go.Proofs.YtnnmfdeeicpdlaaGreat.lay w (A ++ .inl o' :: T)).heap ++ e.blocks)[i]?
      rw [Array.getElem?_append, Array.getElem?_append, h1, h2 i hi]
theorem ow_keepA {w : World} {T : List (Obj ⊕ Ext)} {o : Obj} (o' : Obj) (A : List (Obj ⊕ Ext)) {base : Nat} {v : Value} {l : List Int} (hb : (Go.Proofs.YtnnmfdeeicpdlaaGreat.lay w T).heap.size < base)
    (h : Ow (Go.Proofs.YtnnmfdeeicpdlaaGreat.lay w (A ++ .inl o :: T)) base v l) : Ow (Go.Proofs.YtnnmfdeeicpdlaaGreat.lay w (A ++ .inl o' :: T)) base v l := by
  refine ⟨⟨h.1.1, h.1.2.imp id fun ⟨g, cap, cur, h1, h2, h3, h4⟩ => ⟨g, cap, cur, h1, h2, ?_, h4⟩⟩, h.2⟩
  rw [← h3]
  exact ((lay_same A).2 g (by omega)).symm
theorem lay_lt2 (w : World) (o : Obj) (T A : List (Obj ⊕ Ext)) : (Go.Proofs.YtnnmfdeeicpdlaaGreat.lay w T).heap.size < (Go.Proofs.YtnnmfdeeicpdlaaGreat.lay w (A ++ .inl o :: T)).heap.size :=
  Nat.lt_of_lt_of_le (lay_lt w o T) (lay_below (w := w) (A := A) (B := .inl o :: T)).size
theorem r6_sign (z : Int) (w : World) :
    Calls Tryz.prog 303 #[.int .i64 z] w fun e w' => e = .returned (.int .i64 (sgI z)) ∧ ∃ d, w' = bw w d := by
  unfold sgI
  by_cases h1 : z < 0
  · rw [if_pos h1]
    refine lay_start ?_
    go_enter Tryz.func303, Tryz.ntmps303
    go_wp2
    go_ret
    exact ⟨rfl, lay_ex _ _⟩
  · rw [if_neg h1]
    by_cases h2 : 0 < z
    · rw [if_pos h2]
      refine lay_start ?_
      go_enter Tryz.func303, Tryz.ntmps303
      go_wp2
      go_ret
      exact ⟨rfl, lay_ex _ _⟩
    · rw [if_neg h2]
      refine lay_start ?_
      go_enter Tryz.func303, Tryz.ntmps303
      go_wp2
      go_ret
      exact ⟨rfl, lay_ex _ _⟩
end Go.Proofs.YtnnmfdeeicpdlaaGreat

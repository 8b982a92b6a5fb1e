/- Contracts and plain laws, several texts in one: HzK; HzI; HzL; HxA; HxB; Hs3 -/
import Derived.Test.YtnnmfdeeicpdlaaGreatProg
import Derived.WalkKit
import Derived.WalkSpells
import Derived.WalkLawsBesides
import Derived.Lib.Hide
import Derived.BigQuiet
import Derived.Test.YtnnmfdeeicpdlaaGreatSAA
import Derived.Test.YtnnmfdeeicpdlaaGreatSAC
import Derived.Test.YtnnmfdeeicpdlaaGreatSAX
import Derived.Test.YtnnmfdeeicpdlaaGreatSBA
import Derived.Test.YtnnmfdeeicpdlaaGreatSBB
/- The reference's side, last, first. -/
namespace Go.Proofs.YtnnmfdeeicpdlaaGreat
open Go.RowKit Go.Shelf

end Go.Proofs.YtnnmfdeeicpdlaaGreat
/- Crossings follow one another: the plain law; the reference's Given. -/
namespace Go.Proofs.YtnnmfdeeicpdlaaGreat
open Go.RowKit Go.Shelf

end Go.Proofs.YtnnmfdeeicpdlaaGreat
/- The reference's crossings. -/
namespace Go.Proofs.YtnnmfdeeicpdlaaGreat
open Go.RowKit Go.Shelf

end Go.Proofs.YtnnmfdeeicpdlaaGreat
/- The first crossing of a direction; the error number of a day. -/
namespace Go.Proofs.YtnnmfdeeicpdlaaGreat
open Go.RowKit Go.Shelf

def wyF : List CrV → Bool → Option CrV
  | [], _ => none
  | c :: l, up => if c.up = up then some c else wyF l up
def wyL (l : List CrV) (up : Bool) : Int := match wyF l up with | some c => c.lo | none => 0
def wyH (l : List CrV) (up : Bool) : Int := match wyF l up with | some c => c.hi | none => 0
def wyB (l : List CrV) (up : Bool) : Bool := (wyF l up).isSome
theorem wy_some {l : List CrV} {up : Bool} {c : CrV} (h : wyF l up = some c) : wyL l up = c.lo ∧ wyH l up = c.hi ∧ wyB l up = true := by unfold wyL wyH wyB; rw [h]; exact ⟨rfl, rfl, rfl⟩
theorem wy_none {l : List CrV} {up : Bool} (h : wyF l up = none) : wyL l up = 0 ∧ wyH l up = 0 ∧ wyB l up = false := by unfold wyL wyH wyB; rw [h]; exact ⟨rfl, rfl, rfl⟩
theorem wy_drop {l : List CrV} {i : Nat} {z : CrV} (hz : l[i]? = some z) : l.drop i = z :: l.drop (i + 1) := by
  obtain ⟨hi, e⟩ := List.getElem?_eq_some_iff.1 hz
  rw [List.drop_eq_getElem_cons hi, e]
theorem wy_yes {l : List CrV} {up : Bool} {i : Nat} {z : CrV} (hz : l[i]? = some z) (h : wyF (l.drop i) up = wyF l up) (c : z.up = up) : wyF l up = some z := by
  rw [← h, wy_drop hz]
  exact if_pos c
theorem wy_no {l : List CrV} {up : Bool} {i : Nat} {z : CrV} (hz : l[i]? = some z) (h : wyF (l.drop i) up = wyF l up) (c : ¬ z.up = up) : wyF (l.drop (i + 1)) up = wyF l up := by
  rw [← h, wy_drop hz]
  exact (if_neg c).symm
set_option maxHeartbeats 4000000 in
set_option maxRecDepth 100000 in
theorem hz_first (v : Value) (l : List CrV) (up : Bool) (w : World) (h : SlG crR w v l) (hl : l.length ≤ 145) :
    Calls Tryz.prog 78 #[v, .bool up] w fun e w' => e = .returned (.tuple #[(.agg #[.int .i64 (wyL l up), .int .i64 (wyH l up)]), .bool (wyB l up)]) ∧ ∃ d, w' = bw w d := by
  obtain ⟨va, vc, rfl, hcap, -, hopen⟩ := h
  obtain ⟨N, hN⟩ : ∃ N, l.length = N := ⟨_, rfl⟩
  rw [hN] at hcap hl ⊢
  have HR : Hid (∀ i c, l[i]? = some c → ∃ b o, va = some ⟨b, o, none⟩ ∧ b < w.heap.size ∧ w.cell? ⟨b, o + i * 3, none⟩ = some (.int .i64 c.lo) ∧ w.cell? ⟨b, o + i * 3 + 1, none⟩ = some (.int .i64 c.hi) ∧ w.cell? ⟨b, o + i * 3 + 2, none⟩ = some (.bool c.up)) := Lib.hid (fun i c hc => by
    obtain ⟨b, o, e, hb, hr⟩ := hopen (by rintro rfl; simp at hc)
    exact ⟨b, o, e, hb, hr i c hc 0 _ rfl, hr i c hc 1 _ rfl, hr i c hc 2 _ rfl⟩)
  clear hopen
  refine lay_start ?_
  go_enter Tryz.func78, Tryz.ntmps78
  go_wp2_with fail
  go_loopw [10] (fun v10 wr => ∃ (i : Nat) (d : Ext), i ≤ N ∧ v10 = .int .i64 (i : Int) ∧ wr = lay w (.inr d :: [.inl (Obj.cells #[.int .i64 0, .int .i64 0] 39)]) ∧ wyF (l.drop i) up = wyF l up) (fun v10 _ => ((N : Int) - intOf v10).toNat)
  case atStart => exact ⟨0, noExt _, Nat.zero_le _, rfl, (bw_noExt _).symm, rfl⟩
  case round =>
    obtain ⟨i, d, hi, rfl, rfl, hF⟩ := hrel
    have kI : IntKind.i64.wrap ((i : Int) + 1) = ((i + 1 : Nat) : Int) := by rw [IntWalk.i64_in _ (by omega)]; omega
    by_cases c : i < N
    · obtain ⟨z, hz⟩ : ∃ z, l[i]? = some z := ⟨_, List.getElem?_eq_getElem (by omega)⟩
      obtain ⟨b, o, rfl, hb, e0, e1, e2⟩ := HR.out i z hz
      have i0 : (0 : Int) ≤ (i : Int) := by omega
      have i1 : (i : Int) < (N : Int) := by omega
      by_cases cu : z.up = up
      · obtain ⟨w1, w2, w3⟩ := wy_some (wy_yes hz hF cu)
        have HW := Lib.hid (And.intro w1 (And.intro w2 w3))
        clear w1 w2 w3 hF hz
        obtain ⟨z0, z1, zu⟩ := z
        dsimp only at *
        subst cu
        have eu : (zu == zu) = true := beq_self_eq_true _
        go_wp2_with fail
        exact bodyPost_ret (v := .tuple #[(.agg #[.int .i64 (z0), .int .i64 (z1)]), .bool true]) (by simp [results, Tryz.results78, go_sem]) rfl ⟨by rw [HW.out.1, HW.out.2.1, HW.out.2.2], lay_ex _ _⟩
      · have HF := Lib.hid (wy_no hz hF cu)
        clear hF hz
        obtain ⟨z0, z1, zu⟩ := z
        dsimp only at *
        have eu : (zu == up) = false := beq_eq_false_iff_ne.2 cu
        go_wp2_with fail
        go_roundw
        case rel => exact ⟨i + 1, _, by omega, rfl, (lay_fold w [_, _] _).choose_spec, HF.out⟩
        case measure => simp [intOf]; omega
    · have hn : wyF l up = none := by rw [← hF, List.drop_eq_nil_of_le (by omega)]; rfl
      obtain ⟨w1, w2, w3⟩ := wy_none hn
      have HW := Lib.hid (And.intro w1 (And.intro w2 w3))
      clear w1 w2 w3 hF hn
      go_wp2_with fail
      exact bodyPost_ret (v := .tuple #[(.agg #[.int .i64 (0), .int .i64 (0)]), .bool false]) (by simp [results, Tryz.results78, go_sem]) rfl ⟨by rw [HW.out.1, HW.out.2.1, HW.out.2.2], lay_ex _ _⟩
def dyE (f : Int) : Int := if insB f = true ∧ insB (f + 86400000) = true then 0 else 2
theorem dyE_0 {f : Int} (h : dyE f = 0) : insB f = true ∧ insB (f + 86400000) = true ∧ -70368744177664 ≤ f ∧ f + 86400000 ≤ 70368744177664 := by
  unfold dyE at h
  split at h
  · rename_i c
    exact ⟨c.1, c.2, (of_decide_eq_true c.1).1, (of_decide_eq_true c.2).2⟩
  · cases h
end Go.Proofs.YtnnmfdeeicpdlaaGreat
/- RiseSet: the plain answer; the program's. -/
namespace Go.Proofs.YtnnmfdeeicpdlaaGreat
open Go.RowKit Go.Shelf

theorem whR_sz {lp : List PgV} {ls : List StarV} {s : ByteArray} {f : Int} (hok : ∀ p ∈ lp, PgOk p) : (0 ≤ (whR lp ls s f f).1.e ∧ (whR lp ls s f f).1.e ≤ 100000) ∧ (0 ≤ (whR lp ls s f f).1.f ∧ (whR lp ls s f f).1.f ≤ 100000) ∧ (0 ≤ (whR lp ls s f f).1.g ∧ (whR lp ls s f f).1.g ≤ 100000) ∧ (0 ≤ (whR lp ls s f f).1.h ∧ (whR lp ls s f f).1.h ≤ 100000) := by
  cases whW lp ls s f f with
  | bad k => rw [whR_bad k]; decide
  | name t k => rw [whR_name t k]; decide
  | wide t k d => rw [whR_wide t k d]; decide
  | aries t d k => rw [whR_aries t d k]; exact ⟨⟨Int.le_refl _, (by decide : (0 : Int) ≤ 100000)⟩, ⟨Int.le_refl _, (by decide : (0 : Int) ≤ 100000)⟩, ⟨Int.le_refl _, (by decide : (0 : Int) ≤ 100000)⟩, ⟨Int.le_refl _, (by decide : (0 : Int) ≤ 100000)⟩⟩
  | star i x t d k f g e => rw [whR_star t d k f e]; exact ⟨⟨Int.le_refl _, (by decide : (0 : Int) ≤ 100000)⟩, ⟨Int.le_refl _, (by decide : (0 : Int) ≤ 100000)⟩, ⟨Int.le_refl _, (by decide : (0 : Int) ≤ 100000)⟩, ⟨Int.le_refl _, (by decide : (0 : Int) ≤ 100000)⟩⟩
  | body t d k _ g c =>
    rw [whR_body t d k g c]
    cases h3 : trkAt lp s (f / 86400000) with
    | none => rw [bodyR_no h3]; decide
    | some u =>
      rw [bodyR_one h3 rfl]
      have hu := trkAt_ok hok h3
      have hb : (0 ≤ u.p ∧ u.p ≤ 200) ∧ (0 ≤ u.q ∧ u.q ≤ 620) := by
        unfold trkB at hu
        simp only [Bool.and_eq_true] at hu
        have h1 := inLB_iff.1 hu.1.1.2 0 (by simp)
        have h2 := inLB_iff.1 hu.1.2 0 (by simp)
        exact ⟨h1, h2⟩
      show (0 ≤ szL u.p ∧ szL u.p ≤ 100000) ∧ (0 ≤ szH u.p ∧ szH u.p ≤ 100000) ∧ (0 ≤ szL u.q ∧ szL u.q ≤ 100000) ∧ (0 ≤ szH u.q ∧ szH u.q ≤ 100000)
      unfold szL szH
      rw [mx_eq, mx_eq, mx_eq, mx_eq]
      omega
def rsN (G : GeoV) : Int := (G.g + G.h) / 2 - (G.e + G.f) / 2 - 34000
structure RsV where
  a : Int
  b : Int
  c : Int
  d : Int
  e : Int
def rsF (G : GeoV) (we : Int) (S : Int → Int → Int) (E : Int → Int) (f : Int) : RsV :=
  if dyE f ≠ 0 then ⟨0, 0, 0, 0, dyE f⟩ else if we ≠ 0 then ⟨0, 0, 0, 0, we⟩ else if rsN G < -5400000 ∨ 5400000 < rsN G then ⟨0, 0, 0, 0, 2⟩
  else if erF E (smp f (f + 86400000)) ≠ 0 then ⟨0, 0, 0, 0, erF E (smp f (f + 86400000))⟩
  else if wyB (crF (S (rsN G)) (smp f (f + 86400000)) 0 0) true = false ∨ wyB (crF (S (rsN G)) (smp f (f + 86400000)) 0 0) false = false then ⟨0, 0, 0, 0, 12⟩
  else ⟨wyL (crF (S (rsN G)) (smp f (f + 86400000)) 0 0) true, wyH (crF (S (rsN G)) (smp f (f + 86400000)) 0 0) true, wyL (crF (S (rsN G)) (smp f (f + 86400000)) 0 0) false, wyH (crF (S (rsN G)) (smp f (f + 86400000)) 0 0) false, 0⟩
variable {G : GeoV} {we f : Int} {S : Int → Int → Int} {E : Int → Int}
theorem rsF_day (h : dyE f ≠ 0) : rsF G we S E f = ⟨0, 0, 0, 0, dyE f⟩ := if_pos h
theorem rsF_whe (h : dyE f = 0) (h2 : we ≠ 0) : rsF G we S E f = ⟨0, 0, 0, 0, we⟩ := (if_neg (fun g => g h)).trans (if_pos h2)
theorem rsF_alt (h : dyE f = 0) (h2 : we = 0) (h3 : rsN G < -5400000 ∨ 5400000 < rsN G) : rsF G we S E f = ⟨0, 0, 0, 0, 2⟩ := (if_neg (fun g => g h)).trans ((if_neg (fun g => g h2)).trans (if_pos h3))
theorem rsF_err (h : dyE f = 0) (h2 : we = 0) (h3 : ¬ (rsN G < -5400000 ∨ 5400000 < rsN G)) (h4 : erF E (smp f (f + 86400000)) ≠ 0) : rsF G we S E f = ⟨0, 0, 0, 0, erF E (smp f (f + 86400000))⟩ := (if_neg (fun g => g h)).trans ((if_neg (fun g => g h2)).trans ((if_neg h3).trans (if_pos h4)))
theorem rsF_non {l : List CrV} (h : dyE f = 0) (h2 : we = 0) (h3 : ¬ (rsN G < -5400000 ∨ 5400000 < rsN G)) (h4 : erF E (smp f (f + 86400000)) = 0) (hl : crF (S (rsN G)) (smp f (f + 86400000)) 0 0 = l) (h5 : wyB l true = false ∨ wyB l false = false) : rsF G we S E f = ⟨0, 0, 0, 0, 12⟩ := by
  subst hl
  exact (if_neg (fun g => g h)).trans ((if_neg (fun g => g h2)).trans ((if_neg h3).trans ((if_neg (fun g => g h4)).trans (if_pos h5))))
theorem rsF_two {l : List CrV} (h : dyE f = 0) (h2 : we = 0) (h3 : ¬ (rsN G < -5400000 ∨ 5400000 < rsN G)) (h4 : erF E (smp f (f + 86400000)) = 0) (hl : crF (S (rsN G)) (smp f (f + 86400000)) 0 0 = l) (h5 : ¬ (wyB l true = false ∨ wyB l false = false)) : rsF G we S E f = ⟨wyL l true, wyH l true, wyL l false, wyH l false, 0⟩ := by
  subst hl
  exact (if_neg (fun g => g h)).trans ((if_neg (fun g => g h2)).trans ((if_neg h3).trans ((if_neg (fun g => g h4)).trans (if_neg h5))))
def rsV (R : RsV) : Value := .tuple #[(.agg #[.int .i64 (R.a), .int .i64 (R.b)]), (.agg #[.int .i64 (R.c), .int .i64 (R.d)]), .int .i64 R.e]
set_option maxHeartbeats 8000000 in
set_option maxRecDepth 100000 in
theorem hz_RiseSet (G : GeoV) (we : Int) (S : Int → Int → Int) (E : Int → Int) (bk : Nat) (s : ByteArray) (u x f : Int) (w : World) (HW : Hid (∀ L, Calls Tryz.prog 30 #[.pointer (some ⟨bk, 0, none⟩), .string s, (.agg #[.int .i64 (f), .int .i64 (f)])] (lay w L) fun e w' => e = .returned (.tuple #[gv G, .int .i64 we]) ∧ ∃ d, w' = bw (lay w L) d)) (HS0 : ∀ n, WSide (S n) E bk s u x n w) (hp : ptB u x = true) (hsz : (0 ≤ G.e ∧ G.e ≤ 100000) ∧ (0 ≤ G.f ∧ G.f ≤ 100000) ∧ (0 ≤ G.g ∧ G.g ≤ 100000) ∧ (0 ≤ G.h ∧ G.h ≤ 100000)) (hS3 : ∀ n m, S n m = -1 ∨ S n m = 0 ∨ S n m = 1) (hE : erF E (smp f (f + 86400000)) = 0 → ∀ m, f ≤ m → m ≤ f + 86400000 → E m = 0) :
    Calls Tryz.prog 13 #[.pointer (some ⟨bk, 0, none⟩), .string s, (.agg #[.int .i64 (u), .int .i64 (x)]), .int .i64 f] w fun e w' => e = .returned (rsV (rsF G we S E f)) ∧ ∃ d, w' = bw w d := by
  rw [gv_eta] at HW
  have HH := Lib.hid (fun W => hz_here bk u x W)
  rw [hp, if_pos rfl] at HH
  have HI1 := Lib.hid (fun W => hz_instant f W)
  have HI2 := Lib.hid (fun W => hz_instant (f + 86400000) W)
  by_cases hd : dyE f = 0
  · obtain ⟨i1, i2, f0, f1⟩ := dyE_0 hd
    rw [i1] at HI1
    rw [i2] at HI2
    have k1 : IntKind.i64.wrap (f + 86400000) = f + 86400000 := IntWalk.i64_in _ (by omega)
    by_cases hw : we = 0
    · have hcases : ∃ a2 b2 n, IntKind.i64.wrap (G.g + G.h) = G.g + G.h ∧ IntKind.i64.wrap (G.e + G.f) = G.e + G.f ∧ (G.g + G.h) / 2 = a2 ∧ (G.e + G.f) / 2 = b2 ∧ IntKind.i64.wrap a2 = a2 ∧ IntKind.i64.wrap b2 = b2 ∧ IntKind.i64.wrap (a2 - b2) = a2 - b2 ∧ IntKind.i64.wrap (a2 - b2 - 34000) = n ∧ a2 - b2 - 34000 = n ∧ rsN G = n := by
        refine ⟨(G.g + G.h) / 2, (G.e + G.f) / 2, rsN G, ?_, ?_, rfl, rfl, ?_, ?_, ?_, ?_, rfl, rfl⟩
        all_goals (try unfold rsN)
        all_goals exact IntWalk.i64_in _ (by omega)
      obtain ⟨a2, b2, n, kA, kB, hA, hB, kA2, kB2, kD, kN, hN, hn⟩ := hcases
      have HA := Lib.hid (fun W => hz_altitudes n W)
      by_cases ha : n < -5400000 ∨ 5400000 < n
      · have hR := Lib.hid (rsF_alt (S := S) (E := E) (G := G) hd hw (by rw [hn]; exact ha))
        rw [decide_eq_false (by omega)] at HA
        subst hw
        clear hd hn ha hE hS3 HS0 hsz i1 i2 f0 f1 hN
        obtain ⟨r1, r2, r3, r4, r5, r6, r7, r8⟩ := G
        dsimp only at HW kA kB hA hB
        refine lay_start ?_
        go_enter Tryz.func13, Tryz.ntmps13
        go_wp2_with (first | (go_at_call 74; refine (HH.out _).mono ?_; rintro e w' ⟨rfl, d1, rfl⟩; rw [lay_bw]) | (go_at_call 76; refine (HA.out _).mono ?_; rintro e w' ⟨rfl, d2, rfl⟩; rw [lay_bw]) | (go_at_call 30; refine (HW.out _).mono ?_; rintro e w' ⟨rfl, d6, rfl⟩; rw [lay_bw]) | (go_at_call 75; first | ((with_reducible refine (HI1.out _).mono ?_); rintro e w' ⟨rfl, d3, rfl⟩; rw [lay_bw]) | ((with_reducible refine (HI2.out _).mono ?_); rintro e w' ⟨rfl, d4, rfl⟩; rw [lay_bw])))
        go_region
        rw [bw_drewExt, lay_bw]
        go_wp2_with fail
        exact bodyPost_ret (v := .tuple #[(.agg #[.int .i64 (0), .int .i64 (0)]), (.agg #[.int .i64 (0), .int .i64 (0)]), .int .i64 2]) (by simp [results, Tryz.results13, go_sem]) rfl ⟨by rw [hR.out]; rfl, lay_ex _ _⟩
      · obtain ⟨T, hT⟩ : ∃ T, f + 86400000 = T := ⟨_, rfl⟩
        rw [hT] at HI2 k1 hE i2 f1
        have HC := Lib.hid (fun L => hz_crossings (S n) E bk s u x n f T (lay w L) ((HS0 n).on L) (by omega) (by omega) f0 (by omega) (hS3 n) hE)
        rw [decide_eq_true (by omega)] at HA
        have hR1 := Lib.hid (fun h4 => rsF_err (S := S) (E := E) (G := G) hd hw (by rw [hn]; exact ha) h4)
        have hR2 := Lib.hid (fun h4 h5 => rsF_non (S := S) (E := E) (G := G) hd hw (by rw [hn]; exact ha) h4 (l := crF (S n) (smp f T) 0 0) (by rw [hn, hT]) h5)
        have hR3 := Lib.hid (fun h4 h5 => rsF_two (S := S) (E := E) (G := G) hd hw (by rw [hn]; exact ha) h4 (l := crF (S n) (smp f T) 0 0) (by rw [hn, hT]) h5)
        rw [hT] at hR1 hR2 hR3
        have hlen : (crF (S n) (smp f T) 0 0).length ≤ 145 := by
          have h1 := crF_len (S n) (smp f T) 0 0
          have h2 := smp_len (f := f) (t := T) 144 (by omega)
          omega
        subst hw
        clear hd hn ha hE hS3 HS0 hsz i1 i2 f0 f1 hN
        generalize hrs : rsF G 0 S E f = RR at *
        clear hrs
        obtain ⟨r1, r2, r3, r4, r5, r6, r7, r8⟩ := G
        dsimp only at HW kA kB hA hB
        refine lay_start ?_
        go_enter Tryz.func13, Tryz.ntmps13
        go_wp2_with (first | (go_at_call 74; refine (HH.out _).mono ?_; rintro e w' ⟨rfl, d1, rfl⟩; rw [lay_bw]) | (go_at_call 76; refine (HA.out _).mono ?_; rintro e w' ⟨rfl, d2, rfl⟩; rw [lay_bw]) | (go_at_call 30; refine (HW.out _).mono ?_; rintro e w' ⟨rfl, d6, rfl⟩; rw [lay_bw]) | (go_at_call 75; first | ((with_reducible refine (HI1.out _).mono ?_); rintro e w' ⟨rfl, d3, rfl⟩; rw [lay_bw]) | ((with_reducible refine (HI2.out _).mono ?_); rintro e w' ⟨rfl, d4, rfl⟩; rw [lay_bw])))
        refine (HC.out _).mono ?_
        rintro e w' ⟨⟨d5, rfl⟩, hcase⟩
        rw [lay_bw] at hcase ⊢
        rcases hcase with ⟨her, rfl⟩ | ⟨her, v, rfl, hv⟩
        · have hR := Lib.hid (hR1.out her)
          obtain ⟨EX, hEX⟩ : ∃ EX, erF E (smp f T) = EX := ⟨_, rfl⟩
          rw [hEX] at her hR ⊢
          have g1 : (EX != 0) = true := by simpa using her
          have g2 : (EX == 0) = false := beq_eq_false_iff_ne.2 her
          clear hR1 hR2 hR3 hEX HC HH HI1 HI2 HA HW
          go_wp2_with fail
          go_region
          rw [bw_drewExt, lay_bw]
          go_wp2_with fail
          exact bodyPost_ret (v := .tuple #[(.agg #[.int .i64 (0), .int .i64 (0)]), (.agg #[.int .i64 (0), .int .i64 (0)]), .int .i64 EX]) (by simp [results, Tryz.results13, go_sem]) rfl ⟨by rw [hR.out]; rfl, lay_ex _ _⟩
        · have hR4 := Lib.hid (fun h5 => hR2.out her h5)
          have hR5 := Lib.hid (fun h5 => hR3.out her h5)
          clear hR1 hR2 hR3 her HC HH HI1 HI2 HA HW
          generalize crF (S n) (smp f T) 0 0 = l at *
          have HV := Lib.hid hv
          have HLn := Lib.hid hlen
          clear hv hlen
          go_wp2_with fail
          refine (hz_first v l true _ HV.out HLn.out).mono ?_
          rintro e w' ⟨rfl, d7, rfl⟩
          rw [lay_bw]
          go_wp2_with fail
          refine (hz_first v l false _ (slG_on (A := [_, _]) HV.out) HLn.out).mono ?_
          rintro e w' ⟨rfl, d8, rfl⟩
          rw [lay_bw]
          generalize wyL l true = t0 at *
          generalize wyH l true = t1 at *
          generalize wyB l true = b1 at *
          generalize wyL l false = t2 at *
          generalize wyH l false = t3 at *
          generalize wyB l false = b2 at *
          clear HV HLn
          cases b1
          · have hR := Lib.hid (hR4.out (.inl rfl))
            clear hR4 hR5
            go_wp2_with fail
            go_region
            rw [bw_drewExt, lay_bw]
            go_wp2_with fail
            exact bodyPost_ret (v := .tuple #[(.agg #[.int .i64 (0), .int .i64 (0)]), (.agg #[.int .i64 (0), .int .i64 (0)]), .int .i64 12]) (by simp [results, Tryz.results13, go_sem]) rfl ⟨by rw [hR.out]; rfl, lay_ex _ _⟩
          · cases b2
            · have hR := Lib.hid (hR4.out (.inr rfl))
              clear hR4 hR5
              go_wp2_with fail
              go_region
              rw [bw_drewExt, lay_bw]
              go_wp2_with fail
              exact bodyPost_ret (v := .tuple #[(.agg #[.int .i64 (0), .int .i64 (0)]), (.agg #[.int .i64 (0), .int .i64 (0)]), .int .i64 12]) (by simp [results, Tryz.results13, go_sem]) rfl ⟨by rw [hR.out]; rfl, lay_ex _ _⟩
            · have hR := Lib.hid (hR5.out (by simp))
              clear hR4 hR5
              go_wp2_with fail
              go_region
              rw [bw_drewExt, lay_bw]
              go_wp2_with fail
              exact bodyPost_ret (v := .tuple #[(.agg #[.int .i64 (t0), .int .i64 (t1)]), (.agg #[.int .i64 (t2), .int .i64 (t3)]), .int .i64 0]) (by simp [results, Tryz.results13, go_sem]) rfl ⟨by rw [hR.out]; rfl, lay_ex _ _⟩
    · have hR := Lib.hid (rsF_whe (S := S) (E := E) (G := G) hd hw)
      have g1 : (we != 0) = true := by simpa using hw
      have g2 : (we == 0) = false := beq_eq_false_iff_ne.2 hw
      clear hd hw hE hS3 HS0 hsz i1 i2 f0 f1
      obtain ⟨r1, r2, r3, r4, r5, r6, r7, r8⟩ := G
      dsimp only at HW
      refine lay_start ?_
      go_enter Tryz.func13, Tryz.ntmps13
      go_wp2_with (first | (go_at_call 74; refine (HH.out _).mono ?_; rintro e w' ⟨rfl, d1, rfl⟩; rw [lay_bw]) | (go_at_call 30; refine (HW.out _).mono ?_; rintro e w' ⟨rfl, d6, rfl⟩; rw [lay_bw]) | (go_at_call 75; first | ((with_reducible refine (HI1.out _).mono ?_); rintro e w' ⟨rfl, d3, rfl⟩; rw [lay_bw]) | ((with_reducible refine (HI2.out _).mono ?_); rintro e w' ⟨rfl, d4, rfl⟩; rw [lay_bw])))
      go_region
      rw [bw_drewExt, lay_bw]
      go_wp2_with fail
      exact bodyPost_ret (v := .tuple #[(.agg #[.int .i64 (0), .int .i64 (0)]), (.agg #[.int .i64 (0), .int .i64 (0)]), .int .i64 we]) (by simp [results, Tryz.results13, go_sem]) rfl ⟨by rw [hR.out]; rfl, lay_ex _ _⟩
  · have hR := Lib.hid (rsF_day (S := S) (E := E) (G := G) (we := we) hd)
    have hdv : dyE f = 2 := by unfold dyE at hd ⊢; split at hd <;> simp_all
    rw [hdv] at hR
    clear hE hS3 HS0 hsz HW
    cases c1 : insB f
    · rw [c1] at HI1
      clear hd hdv c1 HI2
      refine lay_start ?_
      go_enter Tryz.func13, Tryz.ntmps13
      go_wp2_with (first | (go_at_call 74; refine (HH.out _).mono ?_; rintro e w' ⟨rfl, d1, rfl⟩; rw [lay_bw]) | (go_at_call 75; (with_reducible refine (HI1.out _).mono ?_); rintro e w' ⟨rfl, d3, rfl⟩; rw [lay_bw]))
      go_region
      rw [bw_drewExt, lay_bw]
      go_wp2_with fail
      exact bodyPost_ret (v := .tuple #[(.agg #[.int .i64 (0), .int .i64 (0)]), (.agg #[.int .i64 (0), .int .i64 (0)]), .int .i64 2]) (by simp [results, Tryz.results13, go_sem]) rfl ⟨by rw [hR.out]; rfl, lay_ex _ _⟩
    · have e3 := of_decide_eq_true c1
      have k1 : IntKind.i64.wrap (f + 86400000) = f + 86400000 := IntWalk.i64_in _ (by omega)
      have c2 : insB (f + 86400000) = false := by
        cases c : insB (f + 86400000)
        · rfl
        · exact absurd (if_pos ⟨c1, c⟩) hd
      rw [c1] at HI1
      rw [c2] at HI2
      clear hd hdv c1 c2 e3
      refine lay_start ?_
      go_enter Tryz.func13, Tryz.ntmps13
      go_wp2_with (first | (go_at_call 74; refine (HH.out _).mono ?_; rintro e w' ⟨rfl, d1, rfl⟩; rw [lay_bw]) | (go_at_call 75; first | ((with_reducible refine (HI1.out _).mono ?_); rintro e w' ⟨rfl, d3, rfl⟩; rw [lay_bw]) | ((with_reducible refine (HI2.out _).mono ?_); rintro e w' ⟨rfl, d4, rfl⟩; rw [lay_bw])))
      go_region
      rw [bw_drewExt, lay_bw]
      go_wp2_with fail
      exact bodyPost_ret (v := .tuple #[(.agg #[.int .i64 (0), .int .i64 (0)]), (.agg #[.int .i64 (0), .int .i64 (0)]), .int .i64 2]) (by simp [results, Tryz.results13, go_sem]) rfl ⟨by rw [hR.out]; rfl, lay_ex _ _⟩
end Go.Proofs.YtnnmfdeeicpdlaaGreat
/- A star over the equator: its risings and settings, sidereal days apart. No program in sight. -/
namespace Go.Proofs.YtnnmfdeeicpdlaaGreat
open Go.RowKit

theorem lst_edge (S : Int → Int) (s : Int) : ∀ (n : Nat) (lo hi : Int), (hi - lo).toNat ≤ n → lo < hi → S hi ≠ s → S (lstR S s lo hi + 1) ≠ s
  | 0, lo, hi, hn, h, _ => by omega
  | n + 1, lo, hi, hn, h, hs => by
    by_cases c : 1 < hi - lo
    · by_cases k : S ((lo + hi) / 2) = s
      · rw [lst_yes c k]
        exact lst_edge S s n ((lo + hi) / 2) hi (by omega) (by omega) hs
      · rw [lst_no c k]
        exact lst_edge S s n lo ((lo + hi) / 2) (by omega) (by omega) k
    · rw [lst_end c, show lo + 1 = hi by omega]; exact hs
theorem fst_edge (S : Int → Int) (s : Int) : ∀ (n : Nat) (lo hi : Int), (hi - lo).toNat ≤ n → lo < hi → S lo ≠ s → S (fstR S s lo hi - 1) ≠ s
  | 0, lo, hi, hn, h, _ => by omega
  | n + 1, lo, hi, hn, h, hs => by
    by_cases c : 1 < hi - lo
    · by_cases k : S ((lo + hi) / 2) = s
      · rw [fst_yes c k]
        exact fst_edge S s n lo ((lo + hi) / 2) (by omega) (by omega) hs
      · rw [fst_no c k]
        exact fst_edge S s n ((lo + hi) / 2) hi (by omega) (by omega) k
    · rw [fst_end c, show hi - 1 = lo by omega]; exact hs
def CrAt (S : Int → Int) (f e : Int) (c : CrV) : Prop := ∃ a t, S a ≠ 0 ∧ S t ≠ 0 ∧ S t ≠ S a ∧ a < t ∧ t ≤ a + 2400000 ∧ f ≤ a ∧ t ≤ e ∧ c = ⟨lstR S (S a) a t, fstR S (S t) a t, decide (S a < 0)⟩
theorem cr_at {S : Int → Int} (hZ : ∀ t, S t = 0 → S (t + 1200000) ≠ 0) (f0 e : Int) : ∀ (n : Nat) (f a k : Int), (e - f).toNat ≤ n → f ≤ e → (e - f) % 1200000 = 0 → f0 ≤ f →
    (k ≠ 0 → S a = k ∧ f0 ≤ a ∧ (f = a + 1200000 ∨ (f = a + 2400000 ∧ S (a + 1200000) = 0))) → ∀ c ∈ crF S (smp f e) a k, CrAt S f0 e c
  | n, f, a, k, hn, hf, hm, h0, hk => by
    intro c hc
    have hstep : ∀ l : List Int, (∀ a' k', (k' ≠ 0 → S a' = k' ∧ f0 ≤ a' ∧ ((a' = f) ∨ (f = a' + 1200000 ∧ S f = 0))) → ∀ c ∈ crF S l a' k', CrAt S f0 e c) → ∀ c ∈ crF S (f :: l) a k, CrAt S f0 e c := by
      intro l ih c hc
      by_cases hz : S f = 0
      · rw [cr_zero hz] at hc
        refine ih a k (fun hk0 => ?_) c hc
        obtain ⟨e1, e2, e3⟩ := hk hk0
        rcases e3 with e3 | ⟨e3, e4⟩
        · exact ⟨e1, e2, .inr ⟨e3, hz⟩⟩
        · have := hZ _ e4
          rw [show a + 1200000 + 1200000 = f by omega] at this
          exact absurd hz this
      · by_cases hs : k = 0 ∨ S f = k
        · rw [cr_same hz hs] at hc
          exact ih f (S f) (fun _ => ⟨rfl, h0, .inl rfl⟩) c hc
        · have hk0 : k ≠ 0 := fun h => hs (.inl h)
          rw [cr_cross hz hk0 (fun h => hs (.inr h))] at hc
          obtain ⟨e1, e2, e3⟩ := hk hk0
          rcases List.mem_cons.1 hc with rfl | hc
          · refine ⟨a, f, by rw [e1]; exact hk0, hz, by rw [e1]; exact fun h => hs (.inr h), ?_, ?_, e2, hf, by rw [e1]⟩
            · rcases e3 with e3 | e3 <;> omega
            · rcases e3 with e3 | e3 <;> omega
          · exact ih f (S f) (fun _ => ⟨rfl, h0, .inl rfl⟩) c hc
    by_cases hlt : f < e
    · rw [smp_lt hlt] at hc
      obtain ⟨n', rfl⟩ : ∃ n', n = n' + 1 := ⟨n - 1, by omega⟩
      refine hstep _ (fun a' k' hk' => cr_at hZ f0 e n' (f + 1200000) a' k' (by omega) (by omega) (by omega) (by omega) (fun h => ?_)) c hc
      obtain ⟨e1, e2, e3⟩ := hk' h
      refine ⟨e1, e2, ?_⟩
      rcases e3 with rfl | ⟨e3, e4⟩
      · exact .inl rfl
      · exact .inr ⟨by omega, by rw [← e3]; exact e4⟩
    · rw [smp_end hlt] at hc
      have hfe : f = e := by omega
      subst hfe
      exact hstep [] (fun a' k' _ c hc => by simp [crF] at hc) c hc
  termination_by n => n
theorem wy_mem {l : List CrV} {up : Bool} {c : CrV} (h : wyF l up = some c) : c ∈ l ∧ c.up = up := by
  induction l with
  | nil => cases h
  | cons x l ih =>
    unfold wyF at h
    split at h
    · rename_i e
      cases h
      exact ⟨List.mem_cons_self, e⟩
    · have := ih h
      exact ⟨List.mem_cons_of_mem _ this.1, this.2⟩
structure CrEnds (S : Int → Int) (s f e : Int) (c : CrV) : Prop where
  l0 : S c.lo = s
  l1 : S (c.lo + 1) ≠ s
  h0 : S (c.hi - 1 + 1) = -s
  h1 : S (c.hi - 1) ≠ -s
  f : f ≤ c.lo
  e : c.hi ≤ e
  lt : c.lo ≤ c.hi - 1
  sh : c.hi - 1 + 1 - c.lo ≤ 2400000
theorem cr_ends {S : Int → Int} {f e : Int} {c : CrV} (h3 : ∀ t, S t = -1 ∨ S t = 0 ∨ S t = 1) (h : CrAt S f e c) : CrEnds S (if c.up = true then -1 else 1) f e c := by
  obtain ⟨a, t, ha, ht, hne, hat, hta, hf, he, rfl⟩ := h
  have x1 := lst_is S (S a) _ a t (Nat.le_refl _) hat rfl
  have x2 := fst_is S (S t) _ a t (Nat.le_refl _) hat rfl
  have x3 := lst_edge S (S a) _ a t (Nat.le_refl _) hat hne
  have x4 := fst_edge S (S t) _ a t (Nat.le_refl _) hat (Ne.symm hne)
  have x5 := lst_fst S (Ne.symm hne) _ a t (Nat.le_refl _) hat rfl rfl
  have t1 := h3 a
  have t2 := h3 t
  have es : (if decide (S a < 0) = true then (-1 : Int) else 1) = S a := by
    by_cases hh : S a < 0
    · rw [decide_eq_true hh, if_pos rfl]; omega
    · rw [decide_eq_false hh, if_neg Bool.false_ne_true]; omega
  have et : -(S a) = S t := by omega
  refine ⟨?_, ?_, ?_, ?_, ?_, ?_, ?_, ?_⟩
  · dsimp only; rw [es]; exact x1.1
  · dsimp only; rw [es]; exact x3
  · dsimp only; rw [es, et, Int.sub_add_cancel]; exact x2.1
  · dsimp only; rw [es, et]; exact x4
  · dsimp only; omega
  · dsimp only; omega
  · dsimp only; omega
  · dsimp only; omega
section
variable {S p q : Int → Int} {c0 c1 : Int}
theorem HsM.way (M : HsM S p q c0 c1) {f : Int} {up : Bool} {c : CrV} (h : wyF (crF S (smp f (f + 86400000)) 0 0) up = some c) : CrEnds S (if up = true then -1 else 1) f (f + 86400000) c ∧ c.hi - c.lo ≤ 120000 := by
  obtain ⟨hm, hu⟩ := wy_mem h
  have hc := cr_ends M.tri (cr_at (fun t ht => M.notTwo ht) f (f + 86400000) _ f 0 0 (Nat.le_refl _) (by omega) (by omega) (by omega) (fun h => absurd rfl h) c hm)
  rw [hu] at hc
  refine ⟨hc, ?_⟩
  obtain ⟨l0, l1, h0, h1, -, -, lt, sh⟩ := hc
  cases up
  · have := M.shortS l0 l1 h1 h0 lt sh
    omega
  · rw [if_pos rfl, show -(-1 : Int) = 1 from rfl] at *
    have := M.shortR l0 l1 h1 h0 lt sh
    omega
theorem HsM.rate2 (M : HsM S p q c0 c1) (a b : Int) : 21659138841977 * (b - a) - 86400000000000 < 86400000000000 * (p b - p a) ∧ 86400000000000 * (p b - p a) < 21659138841977 * (b - a) + 86400000000000 := by
  by_cases h : a ≤ b
  · have := M.rate a (b - a) (by omega)
    rw [show a + (b - a) = b by omega] at this
    exact this
  · have := M.rate b (a - b) (by omega)
    rw [show b + (a - b) = a by omega] at this
    omega
theorem HsM.days (M : HsM S p q c0 c1) {a b f : Int} (h1 : S a = -1) (h2 : S (a + 1) ≠ -1) (g1 : S b = -1) (g2 : S (b + 1) ≠ -1) (a0 : f ≤ a) (a1 : a ≤ f + 86400000) (b0 : f + 86164090 ≤ b) (b1 : b ≤ f + 86164090 + 86400000) :
    ∃ j x, b - a = 86164090 * j + x ∧ 0 ≤ j ∧ j ≤ 2 ∧ -240000 ≤ x ∧ x ≤ 240000 := by
  obtain ⟨j, j0, j1⟩ := M.again h1 h2 g1 g2
  have r := M.rate2 a b
  exact ⟨j, b - a - 86164090 * j, by omega, by omega, by omega, by omega, by omega⟩
theorem HsM.halfDay (M : HsM S p q c0 c1) {a b f : Int} (h1 : S a = -1) (h2 : S (a + 1) ≠ -1) (g1 : S b = 1) (g2 : S (b + 1) ≠ 1) (a0 : f ≤ a) (a1 : a ≤ f + 86400000) (b0 : f ≤ b) (b1 : b ≤ f + 86400000) :
    (0 ≤ b - a ∧ 42600000 < b - a ∧ b - a < 45000000) ∨ (b - a < 0 ∧ 42600000 < b - a + 86164090 ∧ b - a + 86164090 < 45000000) := by
  obtain ⟨j, j0, j1⟩ := M.half h1 h2 g1 g2
  have r := M.rate2 a b
  have hj : j = 0 ∨ j = -1 := by omega
  rcases hj with rfl | rfl
  · left; omega
  · right; omega
end
end Go.Proofs.YtnnmfdeeicpdlaaGreat

/- Contracts and plain laws, several texts in one: HxD -/
import Derived.Test.YthjfadfebhjhbaaGreatProg
import Derived.WalkKit
import Derived.WalkSpells
import Derived.WalkLawsBesides
import Derived.Lib.Hide
import Derived.BigQuiet
import Derived.Test.YthjfadfebhjhbaaGreatQAA
import Derived.Test.YthjfadfebhjhbaaGreatQAB
import Derived.Test.YthjfadfebhjhbaaGreatQBN
import Derived.Test.YthjfadfebhjhbaaGreatQBV
/- Twilight: the program's. -/
namespace Go.Proofs.YthjfadfebhjhbaaGreat
open Go.RowKit Go.Shelf

def TmC (w : World) (v : Value) (L : List TmV) : Prop := ∃ b o c, v = .slice (some ⟨b, o, none⟩) L.length c ∧ L.length ≤ c ∧ b < w.heap.size ∧ ∀ i x, L[i]? = some x → w.cell? ⟨b, o + i * 2, none⟩ = some (.int .i64 x.lo) ∧ w.cell? ⟨b, o + i * 2 + 1, none⟩ = some (.int .i64 x.hi)
def twL (l1 l2 l3 : List CrV) : List TmV := [⟨wyL l3 true, wyH l3 true⟩, ⟨wyL l2 true, wyH l2 true⟩, ⟨wyL l1 true, wyH l1 true⟩, ⟨wyL l1 false, wyH l1 false⟩, ⟨wyL l2 false, wyH l2 false⟩, ⟨wyL l3 false, wyH l3 false⟩]
def twM (l1 l2 l3 : List CrV) : Bool := !wyB l1 true || !wyB l1 false || !wyB l2 true || !wyB l2 false || !wyB l3 true || !wyB l3 false
def twE (S : Int → Int → Int) (E : Int → Int) (f : Int) : Int := if dyE f ≠ 0 then dyE f else if erF E (smp f (f + 86400000)) ≠ 0 then erF E (smp f (f + 86400000)) else if twM (crF (S (-360000)) (smp f (f + 86400000)) 0 0) (crF (S (-720000)) (smp f (f + 86400000)) 0 0) (crF (S (-1080000)) (smp f (f + 86400000)) 0 0) = true then 12 else 0
def TwPost (S : Int → Int → Int) (E : Int → Int) (f : Int) (w : World) (e : Ending) (w' : World) : Prop :=
  (∃ d, w' = bw w d) ∧ ((twE S E f ≠ 0 ∧ e = .returned (.tuple #[.slice none 0 0, .int .i64 (twE S E f)])) ∨ (twE S E f = 0 ∧ ∃ v, e = .returned (.tuple #[v, .int .i64 0]) ∧ TmC w' v (twL (crF (S (-360000)) (smp f (f + 86400000)) 0 0) (crF (S (-720000)) (smp f (f + 86400000)) 0 0) (crF (S (-1080000)) (smp f (f + 86400000)) 0 0))))
theorem twE_day {S : Int → Int → Int} {E : Int → Int} {f : Int} (h : dyE f ≠ 0) : twE S E f = dyE f := if_pos h
theorem twE_err {S : Int → Int → Int} {E : Int → Int} {f T : Int} (hT : f + 86400000 = T) (h : dyE f = 0) (h2 : erF E (smp f T) ≠ 0) : twE S E f = erF E (smp f T) := by subst hT; exact (if_neg (fun g => g h)).trans (if_pos h2)
theorem twE_mis {S : Int → Int → Int} {E : Int → Int} {f T : Int} (hT : f + 86400000 = T) (h : dyE f = 0) (h2 : erF E (smp f T) = 0) : twE S E f = if twM (crF (S (-360000)) (smp f T) 0 0) (crF (S (-720000)) (smp f T) 0 0) (crF (S (-1080000)) (smp f T) 0 0) = true then 12 else 0 := by subst hT; exact (if_neg (fun g => g h)).trans (if_neg (fun g => g h2))
inductive TwI (u1l u1h d1l d1h u2l u2h d2l d2h u3l u3h d3l d3h : Int) (bu1 bd1 bu2 bd2 bu3 bd3 : Bool) : Nat → Bool → Array Value → Prop
  | t0 : TwI u1l u1h d1l d1h u2l u2h d2l d2h u3l u3h d3l d3h bu1 bd1 bu2 bd2 bu3 bd3 0 false #[.int .i64 0, .int .i64 0, .int .i64 0, .int .i64 0, .int .i64 0, .int .i64 0, .int .i64 0, .int .i64 0, .int .i64 0, .int .i64 0, .int .i64 0, .int .i64 0]
  | t1 : TwI u1l u1h d1l d1h u2l u2h d2l d2h u3l u3h d3l d3h bu1 bd1 bu2 bd2 bu3 bd3 1 (!bu1 || !bd1) #[.int .i64 0, .int .i64 0, .int .i64 0, .int .i64 0, .int .i64 u1l, .int .i64 u1h, .int .i64 d1l, .int .i64 d1h, .int .i64 0, .int .i64 0, .int .i64 0, .int .i64 0]
  | t2 : TwI u1l u1h d1l d1h u2l u2h d2l d2h u3l u3h d3l d3h bu1 bd1 bu2 bd2 bu3 bd3 2 (!bu1 || !bd1 || !bu2 || !bd2) #[.int .i64 0, .int .i64 0, .int .i64 u2l, .int .i64 u2h, .int .i64 u1l, .int .i64 u1h, .int .i64 d1l, .int .i64 d1h, .int .i64 d2l, .int .i64 d2h, .int .i64 0, .int .i64 0]
  | t3 : TwI u1l u1h d1l d1h u2l u2h d2l d2h u3l u3h d3l d3h bu1 bd1 bu2 bd2 bu3 bd3 3 (!bu1 || !bd1 || !bu2 || !bd2 || !bu3 || !bd3) #[.int .i64 u3l, .int .i64 u3h, .int .i64 u2l, .int .i64 u2h, .int .i64 u1l, .int .i64 u1h, .int .i64 d1l, .int .i64 d1h, .int .i64 d2l, .int .i64 d2h, .int .i64 d3l, .int .i64 d3h]
set_option maxHeartbeats 8000000 in
set_option maxRecDepth 100000 in
theorem hz_Twilight (S : Int → Int → Int) (E : Int → Int) (bk : Nat) (u x f : Int) (w : World) (HS0 : ∀ n, WSide (S n) E bk ⟨#[83, 117, 110]⟩ u x n w) (hp : ptB u x = true) (hS3 : ∀ n m, S n m = -1 ∨ S n m = 0 ∨ S n m = 1) (hE : erF E (smp f (f + 86400000)) = 0 → ∀ m, f ≤ m → m ≤ f + 86400000 → E m = 0) :
    Calls Tryz.prog 25 #[.pointer (some ⟨bk, 0, none⟩), (.agg #[.int .i64 (u), .int .i64 (x)]), .int .i64 f] w (TwPost S E f w) := by
  have HH := Lib.hid (fun W => hz_here bk u x W)
  rw [hp, if_pos rfl] at HH
  have HI1 := Lib.hid (fun W => hz_instant f W)
  have HI2 := Lib.hid (fun W => hz_instant (f + 86400000) W)
  have HLm := Lib.hid (fun W => hz_limits W)
  by_cases hd : dyE f = 0
  · obtain ⟨i1, i2, f0, f1⟩ := dyE_0 hd
    rw [i1] at HI1
    rw [i2] at HI2
    have k1 : IntKind.i64.wrap (f + 86400000) = f + 86400000 := IntWalk.i64_in _ (by omega)
    obtain ⟨T, hT⟩ : ∃ T, f + 86400000 = T := ⟨_, rfl⟩
    have hlen : ∀ n, (crF (S n) (smp f T) 0 0).length ≤ 145 := fun n => by
      have h1 := crF_len (S n) (smp f T) 0 0
      have h2 := smp_len (f := f) (t := T) 144 (by omega)
      omega
    have HC0 := fun (n : Int) (L : List (Obj ⊕ Ext)) => hz_crossings (S n) E bk ⟨#[83, 117, 110]⟩ u x n f T (lay w L) ((HS0 n).on L) (by omega) (by omega) f0 (by omega) (hS3 n) (by rw [← hT]; exact hE)
    rw [hT] at HI2 k1
    by_cases her : erF E (smp f T) = 0
    · have hTE := Lib.hid (twE_mis (S := S) hT hd her)
      have HC1 : Hid (∀ L, Calls _ _ _ (lay w L) fun e w' => ∃ v d, e = .returned (.tuple #[v, .int .i64 0]) ∧ w' = bw (lay w L) d ∧ SlG crR w' v (crF (S (-360000)) (smp f T) 0 0)) := Lib.hid (fun L => (HC0 (-360000) L).mono (fun e w' h => by obtain ⟨⟨d, hd⟩, ⟨h1, _⟩ | ⟨_, v, h2, h3⟩⟩ := h; exact absurd her h1; exact ⟨v, d, h2, hd, h3⟩))
      have HC2 : Hid (∀ L, Calls _ _ _ (lay w L) fun e w' => ∃ v d, e = .returned (.tuple #[v, .int .i64 0]) ∧ w' = bw (lay w L) d ∧ SlG crR w' v (crF (S (-720000)) (smp f T) 0 0)) := Lib.hid (fun L => (HC0 (-720000) L).mono (fun e w' h => by obtain ⟨⟨d, hd⟩, ⟨h1, _⟩ | ⟨_, v, h2, h3⟩⟩ := h; exact absurd her h1; exact ⟨v, d, h2, hd, h3⟩))
      have HC3 : Hid (∀ L, Calls _ _ _ (lay w L) fun e w' => ∃ v d, e = .returned (.tuple #[v, .int .i64 0]) ∧ w' = bw (lay w L) d ∧ SlG crR w' v (crF (S (-1080000)) (smp f T) 0 0)) := Lib.hid (fun L => (HC0 (-1080000) L).mono (fun e w' h => by obtain ⟨⟨d, hd⟩, ⟨h1, _⟩ | ⟨_, v, h2, h3⟩⟩ := h; exact absurd her h1; exact ⟨v, d, h2, hd, h3⟩))
      have HL1 := hlen (-360000)
      have HL2 := hlen (-720000)
      have HL3 := hlen (-1080000)
      have hPost : TwPost S E f w = fun e w' => (∃ d, w' = bw w d) ∧ ((twE S E f ≠ 0 ∧ e = .returned (.tuple #[.slice none 0 0, .int .i64 (twE S E f)])) ∨ (twE S E f = 0 ∧ ∃ v, e = .returned (.tuple #[v, .int .i64 0]) ∧ TmC w' v (twL (crF (S (-360000)) (smp f T) 0 0) (crF (S (-720000)) (smp f T) 0 0) (crF (S (-1080000)) (smp f T) 0 0)))) := by unfold TwPost; rw [hT]
      rw [hPost]
      clear hPost HC0 hlen her hE hS3 HS0 i1 i2 f0 f1 hd hp
      generalize crF (S (-360000)) (smp f T) 0 0 = l1 at *
      generalize crF (S (-720000)) (smp f T) 0 0 = l2 at *
      generalize crF (S (-1080000)) (smp f T) 0 0 = l3 at *
      generalize twE S E f = TE at *
      have HU1 := Lib.hid (fun (v : Value) (W : World) (h : SlG crR W v l1) => hz_first v l1 true W h HL1)
      have HD1 := Lib.hid (fun (v : Value) (W : World) (h : SlG crR W v l1) => hz_first v l1 false W h HL1)
      have HU2 := Lib.hid (fun (v : Value) (W : World) (h : SlG crR W v l2) => hz_first v l2 true W h HL2)
      have HD2 := Lib.hid (fun (v : Value) (W : World) (h : SlG crR W v l2) => hz_first v l2 false W h HL2)
      have HU3 := Lib.hid (fun (v : Value) (W : World) (h : SlG crR W v l3) => hz_first v l3 true W h HL3)
      have HD3 := Lib.hid (fun (v : Value) (W : World) (h : SlG crR W v l3) => hz_first v l3 false W h HL3)
      clear HL1 HL2 HL3
      unfold twM at hTE
      unfold twL
      generalize wyL l1 true = u1l at *
      generalize wyH l1 true = u1h at *
      generalize wyB l1 true = bu1 at *
      generalize wyL l1 false = d1l at *
      generalize wyH l1 false = d1h at *
      generalize wyB l1 false = bd1 at *
      generalize wyL l2 true = u2l at *
      generalize wyH l2 true = u2h at *
      generalize wyB l2 true = bu2 at *
      generalize wyL l2 false = d2l at *
      generalize wyH l2 false = d2h at *
      generalize wyB l2 false = bd2 at *
      generalize wyL l3 true = u3l at *
      generalize wyH l3 true = u3h at *
      generalize wyB l3 true = bu3 at *
      generalize wyL l3 false = d3l at *
      generalize wyH l3 false = d3h at *
      generalize wyB l3 false = bd3 at *
      refine lay_start ?_
      go_enter Tryz.func25, Tryz.ntmps25
      go_wp2_with (first | (go_at_call 36; refine (HH.out _).mono ?_; rintro e w' ⟨rfl, d1, rfl⟩; rw [lay_bw]) | (go_at_call 38; refine (HLm.out _).mono ?_; rintro e w' ⟨rfl, d4, rfl⟩; rw [lay_bw]) | (go_at_call 37; first | ((with_reducible refine (HI1.out _).mono ?_); rintro e w' ⟨rfl, d2, rfl⟩; rw [lay_bw]) | ((with_reducible refine (HI2.out _).mono ?_); rintro e w' ⟨rfl, d3, rfl⟩; rw [lay_bw])))
      go_loopw [43, 11] (fun v43 v11 wr => ∃ (i : Nat) (m : Bool) (cs : Array Value) (e : Ext), v43 = .int .i64 (i : Int) ∧ v11 = .bool m ∧ TwI u1l u1h d1l d1h u2l u2h d2l d2h u3l u3h d3l d3h bu1 bd1 bu2 bd2 bu3 bd3 i m cs ∧ wr = lay w (.inr e :: [.inl (Obj.cells #[.int .i64 (-50000), .int .i64 (-360000), .int .i64 (-720000), .int .i64 (-1080000)] 85), .inr d4, .inl (Obj.cells cs 112), .inr d3, .inr d2, .inl (Obj.cells #[.int .i64 u, .int .i64 u, .int .i64 x, .int .i64 x] 28), .inr d1, .inl (Obj.cells #[.int .i64 u, .int .i64 x] 30)])) (fun v43 _ _ => (3 - intOf v43).toNat)
      case atStart => exact ⟨0, false, _, noExt _, rfl, rfl, TwI.t0, (bw_noExt _).symm⟩
      case round =>
        obtain ⟨i, m, cs, dd, rfl, rfl, hI, rfl⟩ := hrel
        cases hI
        case t0 =>
          clear HC2 HU2 HD2
          clear HC3 HU3 HD3
          go_wp2_with fail
          refine (HC1.out _).mono ?_
          rintro e w' ⟨v, d5, rfl, rfl, hv⟩
          rw [lay_bw] at hv ⊢
          have HV := Lib.hid hv
          clear hv
          go_wp2_with fail
          refine (HU1.out _ _ HV.out).mono ?_
          rintro e w' ⟨rfl, d6, rfl⟩
          rw [lay_bw]
          go_wp2_with fail
          refine (HD1.out _ _ (slG_on (A := [_, _]) HV.out)).mono ?_
          rintro e w' ⟨rfl, d7, rfl⟩
          rw [lay_bw]
          clear HV HC1 HU1 HD1 HH HI1 HI2 HLm
          have HMN : Hid (∀ b : Bool, (false || !bu1 || !bd1) = b → TwI u1l u1h d1l d1h u2l u2h d2l d2h u3l u3h d3l d3h bu1 bd1 bu2 bd2 bu3 bd3 1 b #[.int .i64 0, .int .i64 0, .int .i64 0, .int .i64 0, .int .i64 u1l, .int .i64 u1h, .int .i64 d1l, .int .i64 d1h, .int .i64 0, .int .i64 0, .int .i64 0, .int .i64 0]) := Lib.hid (fun b hb => by subst hb; exact TwI.t1)
          cases bu1
          · skip
            go_wp2_with fail
            go_region
            rw [bw_drewExt, lay_bw]
            go_wp2_with fail
            go_roundw
            case rel => exact ⟨1, _, _, _, rfl, rfl, HMN.out _ rfl, (lay_fold w [_, _, _, _, _, _, _] _).choose_spec⟩
            case measure => simp [intOf]
          · cases bd1
            · skip
              go_wp2_with fail
              go_region
              rw [bw_drewExt, lay_bw]
              go_wp2_with fail
              go_roundw
              case rel => exact ⟨1, _, _, _, rfl, rfl, HMN.out _ rfl, (lay_fold w [_, _, _, _, _, _, _] _).choose_spec⟩
              case measure => simp [intOf]
            · skip
              go_wp2_with fail
              go_region
              rw [bw_drewExt, lay_bw]
              go_wp2_with fail
              go_roundw
              case rel => exact ⟨1, _, _, _, rfl, rfl, HMN.out _ rfl, (lay_fold w [_, _, _, _, _, _, _] _).choose_spec⟩
              case measure => simp [intOf]
        case t1 =>
          obtain ⟨m, hm⟩ : ∃ m, (!bu1 || !bd1) = m := ⟨_, rfl⟩
          rw [hm]
          have HM := Lib.hid hm
          clear hm
          clear HC1 HU1 HD1
          clear HC3 HU3 HD3
          go_wp2_with fail
          refine (HC2.out _).mono ?_
          rintro e w' ⟨v, d5, rfl, rfl, hv⟩
          rw [lay_bw] at hv ⊢
          have HV := Lib.hid hv
          clear hv
          go_wp2_with fail
          refine (HU2.out _ _ HV.out).mono ?_
          rintro e w' ⟨rfl, d6, rfl⟩
          rw [lay_bw]
          go_wp2_with fail
          refine (HD2.out _ _ (slG_on (A := [_, _]) HV.out)).mono ?_
          rintro e w' ⟨rfl, d7, rfl⟩
          rw [lay_bw]
          clear HV HC2 HU2 HD2 HH HI1 HI2 HLm
          have HMN : Hid (∀ b : Bool, (m || !bu2 || !bd2) = b → TwI u1l u1h d1l d1h u2l u2h d2l d2h u3l u3h d3l d3h bu1 bd1 bu2 bd2 bu3 bd3 2 b #[.int .i64 0, .int .i64 0, .int .i64 u2l, .int .i64 u2h, .int .i64 u1l, .int .i64 u1h, .int .i64 d1l, .int .i64 d1h, .int .i64 d2l, .int .i64 d2h, .int .i64 0, .int .i64 0]) := Lib.hid (fun b hb => by subst hb; exact by rw [← HM.out]; exact TwI.t2)
          cases m
          · cases bu2
            · skip
              go_wp2_with fail
              go_region
              rw [bw_drewExt, lay_bw]
              go_wp2_with fail
              go_roundw
              case rel => exact ⟨2, _, _, _, rfl, rfl, HMN.out _ rfl, (lay_fold w [_, _, _, _, _, _, _] _).choose_spec⟩
              case measure => simp [intOf]
            · cases bd2
              · skip
                go_wp2_with fail
                go_region
                rw [bw_drewExt, lay_bw]
                go_wp2_with fail
                go_roundw
                case rel => exact ⟨2, _, _, _, rfl, rfl, HMN.out _ rfl, (lay_fold w [_, _, _, _, _, _, _] _).choose_spec⟩
                case measure => simp [intOf]
              · skip
                go_wp2_with fail
                go_region
                rw [bw_drewExt, lay_bw]
                go_wp2_with fail
                go_roundw
                case rel => exact ⟨2, _, _, _, rfl, rfl, HMN.out _ rfl, (lay_fold w [_, _, _, _, _, _, _] _).choose_spec⟩
                case measure => simp [intOf]
          · skip
            go_wp2_with fail
            go_region
            rw [bw_drewExt, lay_bw]
            go_wp2_with fail
            go_roundw
            case rel => exact ⟨2, _, _, _, rfl, rfl, HMN.out _ rfl, (lay_fold w [_, _, _, _, _, _, _] _).choose_spec⟩
            case measure => simp [intOf]
        case t2 =>
          obtain ⟨m, hm⟩ : ∃ m, (!bu1 || !bd1 || !bu2 || !bd2) = m := ⟨_, rfl⟩
          rw [hm]
          have HM := Lib.hid hm
          clear hm
          clear HC1 HU1 HD1
          clear HC2 HU2 HD2
          go_wp2_with fail
          refine (HC3.out _).mono ?_
          rintro e w' ⟨v, d5, rfl, rfl, hv⟩
          rw [lay_bw] at hv ⊢
          have HV := Lib.hid hv
          clear hv
          go_wp2_with fail
          refine (HU3.out _ _ HV.out).mono ?_
          rintro e w' ⟨rfl, d6, rfl⟩
          rw [lay_bw]
          go_wp2_with fail
          refine (HD3.out _ _ (slG_on (A := [_, _]) HV.out)).mono ?_
          rintro e w' ⟨rfl, d7, rfl⟩
          rw [lay_bw]
          clear HV HC3 HU3 HD3 HH HI1 HI2 HLm
          have HMN : Hid (∀ b : Bool, (m || !bu3 || !bd3) = b → TwI u1l u1h d1l d1h u2l u2h d2l d2h u3l u3h d3l d3h bu1 bd1 bu2 bd2 bu3 bd3 3 b #[.int .i64 u3l, .int .i64 u3h, .int .i64 u2l, .int .i64 u2h, .int .i64 u1l, .int .i64 u1h, .int .i64 d1l, .int .i64 d1h, .int .i64 d2l, .int .i64 d2h, .int .i64 d3l, .int .i64 d3h]) := Lib.hid (fun b hb => by subst hb; exact by rw [← HM.out]; exact TwI.t3)
          cases m
          · cases bu3
            · skip
              go_wp2_with fail
              go_region
              rw [bw_drewExt, lay_bw]
              go_wp2_with fail
              go_roundw
              case rel => exact ⟨3, _, _, _, rfl, rfl, HMN.out _ rfl, (lay_fold w [_, _, _, _, _, _, _] _).choose_spec⟩
              case measure => simp [intOf]
            · cases bd3
              · skip
                go_wp2_with fail
                go_region
                rw [bw_drewExt, lay_bw]
                go_wp2_with fail
                go_roundw
                case rel => exact ⟨3, _, _, _, rfl, rfl, HMN.out _ rfl, (lay_fold w [_, _, _, _, _, _, _] _).choose_spec⟩
                case measure => simp [intOf]
              · skip
                go_wp2_with fail
                go_region
                rw [bw_drewExt, lay_bw]
                go_wp2_with fail
                go_roundw
                case rel => exact ⟨3, _, _, _, rfl, rfl, HMN.out _ rfl, (lay_fold w [_, _, _, _, _, _, _] _).choose_spec⟩
                case measure => simp [intOf]
          · skip
            go_wp2_with fail
            go_region
            rw [bw_drewExt, lay_bw]
            go_wp2_with fail
            go_roundw
            case rel => exact ⟨3, _, _, _, rfl, rfl, HMN.out _ rfl, (lay_fold w [_, _, _, _, _, _, _] _).choose_spec⟩
            case measure => simp [intOf]
        case t3 =>
          obtain ⟨m, hm⟩ : ∃ m, (!bu1 || !bd1 || !bu2 || !bd2 || !bu3 || !bd3) = m := ⟨_, rfl⟩
          rw [hm]
          rw [hm] at hTE
          clear hm HC1 HC2 HC3 HU1 HU2 HU3 HD1 HD2 HD3
          cases m
          · have h0 : TE = 0 := hTE.out
            have HT := Lib.hid h0
            clear hTE h0
            go_wp2_with fail
            refine bodyPost_ret (v := .tuple #[.slice (some ⟨posn w [d3.n, d2.n, 1, d1.n, 1], 0, none⟩) 6 6, .int .i64 0]) (by simp [results, Tryz.results25, go_sem]) rfl ⟨lay_ex _ _, .inr ⟨HT.out, _, rfl, ?_⟩⟩
            refine ⟨_, 0, 6, rfl, Nat.le_refl _, by rw [lay_size]; simp [posn, shp]; omega, ?_⟩
            intro i y hy
            match i, hy with
            | 0, hy => cases hy; exact ⟨by simp [go_sem], by simp [go_sem]⟩
            | 1, hy => cases hy; exact ⟨by simp [go_sem], by simp [go_sem]⟩
            | 2, hy => cases hy; exact ⟨by simp [go_sem], by simp [go_sem]⟩
            | 3, hy => cases hy; exact ⟨by simp [go_sem], by simp [go_sem]⟩
            | 4, hy => cases hy; exact ⟨by simp [go_sem], by simp [go_sem]⟩
            | 5, hy => cases hy; exact ⟨by simp [go_sem], by simp [go_sem]⟩
            | n + 6, hy => simp at hy
          · have h0 : TE = 12 := hTE.out
            have HT := Lib.hid h0
            clear hTE h0
            go_wp2_with fail
            exact bodyPost_ret (v := .tuple #[.slice none 0 0, .int .i64 12]) (by simp [results, Tryz.results25, go_sem]) rfl ⟨lay_ex _ _, .inl ⟨by rw [HT.out]; decide, by rw [HT.out]⟩⟩
    · have hTE := Lib.hid (twE_err (S := S) hT hd her)
      have HC1 : Hid (∀ L, Calls _ _ _ (lay w L) fun e w' => e = .returned (.tuple #[.slice none 0 0, .int .i64 (erF E (smp f T))]) ∧ ∃ d, w' = bw (lay w L) d) := Lib.hid (fun L => (HC0 (-360000) L).mono (fun e w' h => by obtain ⟨hd, ⟨_, h2⟩ | ⟨h1, _⟩⟩ := h; exact ⟨h2, hd⟩; exact absurd h1 her))
      have hPost : TwPost S E f w = fun e w' => (∃ d, w' = bw w d) ∧ ((twE S E f ≠ 0 ∧ e = .returned (.tuple #[.slice none 0 0, .int .i64 (twE S E f)])) ∨ (twE S E f = 0 ∧ ∃ v, e = .returned (.tuple #[v, .int .i64 0]) ∧ TmC w' v (twL (crF (S (-360000)) (smp f (f + 86400000)) 0 0) (crF (S (-720000)) (smp f (f + 86400000)) 0 0) (crF (S (-1080000)) (smp f (f + 86400000)) 0 0)))) := rfl
      rw [hPost]
      clear hPost HC0 hlen hE hS3 HS0 i1 i2 f0 f1 hd hp
      generalize twL (crF (S (-360000)) (smp f (f + 86400000)) 0 0) (crF (S (-720000)) (smp f (f + 86400000)) 0 0) (crF (S (-1080000)) (smp f (f + 86400000)) 0 0) = LL at *
      generalize twE S E f = TE at *
      generalize erF E (smp f T) = EX at *
      have hTX : TE = EX := hTE.out
      subst hTX
      have g1 : (TE != 0) = true := by simpa using her
      have g2 : (TE == 0) = false := beq_eq_false_iff_ne.2 her
      clear hTE
      refine lay_start ?_
      go_enter Tryz.func25, Tryz.ntmps25
      go_wp2_with (first | (go_at_call 36; refine (HH.out _).mono ?_; rintro e w' ⟨rfl, d1, rfl⟩; rw [lay_bw]) | (go_at_call 38; refine (HLm.out _).mono ?_; rintro e w' ⟨rfl, d4, rfl⟩; rw [lay_bw]) | (go_at_call 37; first | ((with_reducible refine (HI1.out _).mono ?_); rintro e w' ⟨rfl, d2, rfl⟩; rw [lay_bw]) | ((with_reducible refine (HI2.out _).mono ?_); rintro e w' ⟨rfl, d3, rfl⟩; rw [lay_bw])))
      go_loopw [43, 11] (fun v43 v11 wr => ∃ (e : Ext), v43 = .int .i64 0 ∧ v11 = .bool false ∧ wr = lay w (.inr e :: [.inl (Obj.cells #[.int .i64 (-50000), .int .i64 (-360000), .int .i64 (-720000), .int .i64 (-1080000)] 85), .inr d4, .inl (Obj.cells #[.int .i64 0, .int .i64 0, .int .i64 0, .int .i64 0, .int .i64 0, .int .i64 0, .int .i64 0, .int .i64 0, .int .i64 0, .int .i64 0, .int .i64 0, .int .i64 0] 112), .inr d3, .inr d2, .inl (Obj.cells #[.int .i64 u, .int .i64 u, .int .i64 x, .int .i64 x] 28), .inr d1, .inl (Obj.cells #[.int .i64 u, .int .i64 x] 30)])) (fun v43 _ _ => (3 - intOf v43).toNat)
      case atStart => exact ⟨noExt _, rfl, rfl, (bw_noExt _).symm⟩
      case round =>
        obtain ⟨dd, rfl, rfl, rfl⟩ := hrel
        go_wp2_with (go_at_call 50; refine (HC1.out _).mono ?_; rintro e w' ⟨rfl, d5, rfl⟩; rw [lay_bw])
        exact bodyPost_ret (v := .tuple #[.slice none 0 0, .int .i64 TE]) (by simp [results, Tryz.results25, go_sem]) rfl ⟨lay_ex _ _, .inl ⟨her, rfl⟩⟩
  · have hdv : dyE f = 2 := by unfold dyE at hd ⊢; split at hd <;> simp_all
    have hT2 : twE S E f = 2 := by rw [twE_day hd, hdv]
    have hPost : TwPost S E f w = fun e w' => (∃ d, w' = bw w d) ∧ ((twE S E f ≠ 0 ∧ e = .returned (.tuple #[.slice none 0 0, .int .i64 (twE S E f)])) ∨ (twE S E f = 0 ∧ ∃ v, e = .returned (.tuple #[v, .int .i64 0]) ∧ TmC w' v (twL (crF (S (-360000)) (smp f (f + 86400000)) 0 0) (crF (S (-720000)) (smp f (f + 86400000)) 0 0) (crF (S (-1080000)) (smp f (f + 86400000)) 0 0)))) := rfl
    rw [hPost, hT2]
    generalize twL (crF (S (-360000)) (smp f (f + 86400000)) 0 0) (crF (S (-720000)) (smp f (f + 86400000)) 0 0) (crF (S (-1080000)) (smp f (f + 86400000)) 0 0) = LL at *
    clear hE hS3 HS0 HLm hPost
    cases c1 : insB f
    · rw [c1] at HI1
      clear hd hdv c1 HI2 hT2
      refine lay_start ?_
      go_enter Tryz.func25, Tryz.ntmps25
      go_wp2_with (first | (go_at_call 36; refine (HH.out _).mono ?_; rintro e w' ⟨rfl, d1, rfl⟩; rw [lay_bw]) | (go_at_call 37; (with_reducible refine (HI1.out _).mono ?_); rintro e w' ⟨rfl, d3, rfl⟩; rw [lay_bw]))
      exact bodyPost_ret (v := .tuple #[.slice none 0 0, .int .i64 2]) (by simp [results, Tryz.results25, go_sem]) rfl ⟨lay_ex _ _, .inl ⟨by decide, rfl⟩⟩
    · have e3 := of_decide_eq_true c1
      have k1 : IntKind.i64.wrap (f + 86400000) = f + 86400000 := IntWalk.i64_in _ (by omega)
      have c2 : insB (f + 86400000) = false := by
        cases c : insB (f + 86400000)
        · rfl
        · exact absurd (if_pos ⟨c1, c⟩) hd
      rw [c1] at HI1
      rw [c2] at HI2
      clear hd hdv c1 c2 e3 hT2
      refine lay_start ?_
      go_enter Tryz.func25, Tryz.ntmps25
      go_wp2_with (first | (go_at_call 36; refine (HH.out _).mono ?_; rintro e w' ⟨rfl, d1, rfl⟩; rw [lay_bw]) | (go_at_call 37; first | ((with_reducible refine (HI1.out _).mono ?_); rintro e w' ⟨rfl, d3, rfl⟩; rw [lay_bw]) | ((with_reducible refine (HI2.out _).mono ?_); rintro e w' ⟨rfl, d4, rfl⟩; rw [lay_bw])))
      exact bodyPost_ret (v := .tuple #[.slice none 0 0, .int .i64 2]) (by simp [results, Tryz.results25, go_sem]) rfl ⟨lay_ex _ _, .inl ⟨by decide, rfl⟩⟩
set_option maxHeartbeats 2000000 in
set_option maxRecDepth 100000 in
theorem hz_Twilight_nil (u x f : Int) (w : World) :
    Calls Tryz.prog 25 #[.pointer none, (.agg #[.int .i64 (u), .int .i64 (x)]), .int .i64 f] w fun e w' => e = .returned (.tuple #[.slice none 0 0, .int .i64 1]) ∧ ∃ d, w' = bw w d := by
  refine lay_start ?_
  go_enter Tryz.func25, Tryz.ntmps25
  go_wp2_with (go_at_call 36; refine (hz_here_nil _ _ _).mono ?_; rintro e w' ⟨rfl, d1, rfl⟩; rw [lay_bw])
  exact bodyPost_ret (v := .tuple #[.slice none 0 0, .int .i64 1]) (by simp [results, Tryz.results25, go_sem]) rfl ⟨rfl, lay_ex _ _⟩
set_option maxHeartbeats 2000000 in
set_option maxRecDepth 100000 in
theorem hz_Twilight_pt (bk : Nat) (u x f : Int) (w : World) (hp : ptB u x = false) :
    Calls Tryz.prog 25 #[.pointer (some ⟨bk, 0, none⟩), (.agg #[.int .i64 (u), .int .i64 (x)]), .int .i64 f] w fun e w' => e = .returned (.tuple #[.slice none 0 0, .int .i64 1]) ∧ ∃ d, w' = bw w d := by
  have HH := Lib.hid (fun W => hz_here bk u x W)
  rw [hp, if_neg (by decide)] at HH
  clear hp
  refine lay_start ?_
  go_enter Tryz.func25, Tryz.ntmps25
  go_wp2_with (go_at_call 36; refine (HH.out _).mono ?_; rintro e w' ⟨rfl, d1, rfl⟩; rw [lay_bw])
  exact bodyPost_ret (v := .tuple #[.slice none 0 0, .int .i64 1]) (by simp [results, Tryz.results25, go_sem]) rfl ⟨rfl, lay_ex _ _⟩
end Go.Proofs.YthjfadfebhjhbaaGreat

/- Contracts and plain laws, several texts in one: HxE -/
import Derived.Test.YthjfadfebhjhbaaGreatProg
import Derived.WalkKit
import Derived.WalkSpells
import Derived.WalkLawsBesides
import Derived.Lib.Hide
import Derived.BigQuiet
import Derived.Test.YthjfadfebhjhbaaGreatQAA
import Derived.Test.YthjfadfebhjhbaaGreatQAB
import Derived.Test.YthjfadfebhjhbaaGreatQAO
import Derived.Test.YthjfadfebhjhbaaGreatQBW
import Derived.Test.YthjfadfebhjhbaaGreatQBX
/- Twilight: the reference's. -/
namespace Go.Proofs.YthjfadfebhjhbaaGreat
open Go.RowKit Go.Shelf

theorem info_tmz : (Tryz.prog.info? 25).map (fun i => (i.zero.map (fun z => z.cells), i.size, i.bytes)) = some (some #[.int .i64 0, .int .i64 0], 2, 16) := by kernel_rfl
theorem made_six : madeCells #[.int .i64 0, .int .i64 0] (6 * 2) = #[.int .i64 0, .int .i64 0, .int .i64 0, .int .i64 0, .int .i64 0, .int .i64 0, .int .i64 0, .int .i64 0, .int .i64 0, .int .i64 0, .int .i64 0, .int .i64 0] := by kernel_rfl
theorem make_six (W : World) : (Instr.makeSlice 54 (.int .i64 6) (.int .i64 6)).run Tryz.prog W = .ok (.slice (some ⟨W.heap.size, 0, none⟩) 6 6) (W.alloc (.cells #[.int .i64 0, .int .i64 0, .int .i64 0, .int .i64 0, .int .i64 0, .int .i64 0, .int .i64 0, .int .i64 0, .int .i64 0, .int .i64 0, .int .i64 0, .int .i64 0] 25)) := by
  have hinf := info_tmz
  cases hq : Tryz.prog.info? 25 with
  | none => rw [hq] at hinf; cases hinf
  | some i =>
    rw [hq] at hinf
    simp only [Option.map_some, Option.some.injEq, Prod.mk.injEq] at hinf
    obtain ⟨hz, hs, hb⟩ := hinf
    cases hzz : i.zero with
    | none => rw [hzz] at hz; cases hz
    | some z =>
      rw [hzz] at hz
      simp only [Option.map_some, Option.some.injEq] at hz
      have hr := run_make (P := Tryz.prog) W 54 25 i z Tryz.underlying54 hq hzz .i64 .i64 6 6 (by omega) (by omega) (by rw [hb]; decide) (by decide)
      rw [hs, hz, show Int.toNat 6 = 6 from rfl, made_six] at hr
      exact hr
inductive TxI (u1l u1h d1l d1h u2l u2h d2l d2h u3l u3h d3l d3h : Int) (bu1 bd1 bu2 bd2 bu3 bd3 : Bool) : Nat → Bool → Array Value → Prop
  | t0 : TxI u1l u1h d1l d1h u2l u2h d2l d2h u3l u3h d3l d3h bu1 bd1 bu2 bd2 bu3 bd3 0 false #[.int .i64 0, .int .i64 0, .int .i64 0, .int .i64 0, .int .i64 0, .int .i64 0, .int .i64 0, .int .i64 0, .int .i64 0, .int .i64 0, .int .i64 0, .int .i64 0]
  | t1 : TxI u1l u1h d1l d1h u2l u2h d2l d2h u3l u3h d3l d3h bu1 bd1 bu2 bd2 bu3 bd3 1 (!bu3 || !bd3) #[.int .i64 u3l, .int .i64 u3h, .int .i64 0, .int .i64 0, .int .i64 0, .int .i64 0, .int .i64 0, .int .i64 0, .int .i64 0, .int .i64 0, .int .i64 d3l, .int .i64 d3h]
  | t2 : TxI u1l u1h d1l d1h u2l u2h d2l d2h u3l u3h d3l d3h bu1 bd1 bu2 bd2 bu3 bd3 2 (!bu3 || !bd3 || !bu2 || !bd2) #[.int .i64 u3l, .int .i64 u3h, .int .i64 u2l, .int .i64 u2h, .int .i64 0, .int .i64 0, .int .i64 0, .int .i64 0, .int .i64 d2l, .int .i64 d2h, .int .i64 d3l, .int .i64 d3h]
  | t3 : TxI u1l u1h d1l d1h u2l u2h d2l d2h u3l u3h d3l d3h bu1 bd1 bu2 bd2 bu3 bd3 3 (!bu3 || !bd3 || !bu2 || !bd2 || !bu1 || !bd1) #[.int .i64 u3l, .int .i64 u3h, .int .i64 u2l, .int .i64 u2h, .int .i64 u1l, .int .i64 u1h, .int .i64 d1l, .int .i64 d1h, .int .i64 d2l, .int .i64 d2h, .int .i64 d3l, .int .i64 d3h]
set_option maxHeartbeats 8000000 in
set_option maxRecDepth 100000 in
theorem r50_Twilight (S : Int → Int → Int) (E : Int → Int) (vp vs : Value) (u x f : Int) (w : World) (HS0 : ∀ n, RSide (S n) E vp vs ⟨#[83, 117, 110]⟩ u x n w) (hS3 : ∀ n m, S n m = -1 ∨ S n m = 0 ∨ S n m = 1) :
    Calls Tryz.prog 26 #[.agg #[vp, vs], (.agg #[.int .i64 (u), .int .i64 (x)]), .int .i64 f] w (TwPost S E f w) := by
  have HDy := Lib.hid (fun W => r50_day f W)
  have HLm := Lib.hid (fun L => r50_LimitsL w L)
  have hmk := make_six
  by_cases hd : dyE f = 0
  · obtain ⟨i1, i2, f0, f1⟩ := dyE_0 hd
    rw [hd] at HDy
    have k1 : IntKind.i64.wrap (f + 86400000) = f + 86400000 := IntWalk.i64_in _ (by omega)
    obtain ⟨T, hT⟩ : ∃ T, f + 86400000 = T := ⟨_, rfl⟩
    have hlen : ∀ n, (crF (S n) (smp f T) 0 0).length ≤ 145 := fun n => by
      have h1 := crF_len (S n) (smp f T) 0 0
      have h2 := smp_len (f := f) (t := T) 144 (by omega)
      omega
    have HC0 := fun (n : Int) (L : List (Obj ⊕ Ext)) => r50_Crossings (S n) E vp vs ⟨#[83, 117, 110]⟩ u x n f T (lay w L) ((HS0 n).on L) (by omega) (by omega) f0 (by omega) (hS3 n)
    rw [hT] at k1
    by_cases her : erF E (smp f T) = 0
    · have hTE := Lib.hid (twE_mis (S := S) hT hd her)
      have HC1 : Hid (∀ L, Calls _ _ _ (lay w L) fun e w' => ∃ v d, e = .returned (.tuple #[v, .int .i64 0]) ∧ w' = bw (lay w L) d ∧ SlG rcR w' v (crF (S (-360000)) (smp f T) 0 0)) := Lib.hid (fun L => (HC0 (-360000) L).mono (fun e w' h => by obtain ⟨⟨d, hd⟩, ⟨h1, _⟩ | ⟨_, v, h2, h3⟩⟩ := h; exact absurd her h1; exact ⟨v, d, h2, hd, h3⟩))
      have HC2 : Hid (∀ L, Calls _ _ _ (lay w L) fun e w' => ∃ v d, e = .returned (.tuple #[v, .int .i64 0]) ∧ w' = bw (lay w L) d ∧ SlG rcR w' v (crF (S (-720000)) (smp f T) 0 0)) := Lib.hid (fun L => (HC0 (-720000) L).mono (fun e w' h => by obtain ⟨⟨d, hd⟩, ⟨h1, _⟩ | ⟨_, v, h2, h3⟩⟩ := h; exact absurd her h1; exact ⟨v, d, h2, hd, h3⟩))
      have HC3 : Hid (∀ L, Calls _ _ _ (lay w L) fun e w' => ∃ v d, e = .returned (.tuple #[v, .int .i64 0]) ∧ w' = bw (lay w L) d ∧ SlG rcR w' v (crF (S (-1080000)) (smp f T) 0 0)) := Lib.hid (fun L => (HC0 (-1080000) L).mono (fun e w' h => by obtain ⟨⟨d, hd⟩, ⟨h1, _⟩ | ⟨_, v, h2, h3⟩⟩ := h; exact absurd her h1; exact ⟨v, d, h2, hd, h3⟩))
      have HL1 := hlen (-360000)
      have HL2 := hlen (-720000)
      have HL3 := hlen (-1080000)
      have hPost : TwPost S E f w = fun e w' => (∃ d, w' = bw w d) ∧ ((twE S E f ≠ 0 ∧ e = .returned (.tuple #[.slice none 0 0, .int .i64 (twE S E f)])) ∨ (twE S E f = 0 ∧ ∃ v, e = .returned (.tuple #[v, .int .i64 0]) ∧ TmC w' v (twL (crF (S (-360000)) (smp f T) 0 0) (crF (S (-720000)) (smp f T) 0 0) (crF (S (-1080000)) (smp f T) 0 0)))) := by unfold TwPost; rw [hT]
      rw [hPost]
      clear hPost HC0 hlen her hS3 HS0 i1 i2 f0 f1 hd
      generalize crF (S (-360000)) (smp f T) 0 0 = l1 at *
      generalize crF (S (-720000)) (smp f T) 0 0 = l2 at *
      generalize crF (S (-1080000)) (smp f T) 0 0 = l3 at *
      generalize twE S E f = TE at *
      have HU1 := Lib.hid (fun (v : Value) (W : World) (h : SlG rcR W v l1) => r50_way v l1 true W h HL1)
      have HD1 := Lib.hid (fun (v : Value) (W : World) (h : SlG rcR W v l1) => r50_way v l1 false W h HL1)
      have HU2 := Lib.hid (fun (v : Value) (W : World) (h : SlG rcR W v l2) => r50_way v l2 true W h HL2)
      have HD2 := Lib.hid (fun (v : Value) (W : World) (h : SlG rcR W v l2) => r50_way v l2 false W h HL2)
      have HU3 := Lib.hid (fun (v : Value) (W : World) (h : SlG rcR W v l3) => r50_way v l3 true W h HL3)
      have HD3 := Lib.hid (fun (v : Value) (W : World) (h : SlG rcR W v l3) => r50_way v l3 false W h HL3)
      clear HL1 HL2 HL3
      unfold twM at hTE
      unfold twL
      generalize wyL l1 true = u1l at *
      generalize wyH l1 true = u1h at *
      generalize wyB l1 true = bu1 at *
      generalize wyL l1 false = d1l at *
      generalize wyH l1 false = d1h at *
      generalize wyB l1 false = bd1 at *
      generalize wyL l2 true = u2l at *
      generalize wyH l2 true = u2h at *
      generalize wyB l2 true = bu2 at *
      generalize wyL l2 false = d2l at *
      generalize wyH l2 false = d2h at *
      generalize wyB l2 false = bd2 at *
      generalize wyL l3 true = u3l at *
      generalize wyH l3 true = u3h at *
      generalize wyB l3 true = bu3 at *
      generalize wyL l3 false = d3l at *
      generalize wyH l3 false = d3h at *
      generalize wyB l3 false = bd3 at *
      refine lay_start ?_
      go_enter Tryz.func26, Tryz.ntmps26
      go_wp2_with (first | (go_at_call 56; refine (HDy.out _).mono ?_; rintro e w' ⟨rfl, d1, rfl⟩; rw [lay_bw]))
      go_loopw [11, 10] (fun v11 v10 wr => ∃ (i : Nat) (m : Bool) (cs : Array Value) (e : Ext), v11 = .int .i64 (i : Int) ∧ v10 = .bool m ∧ TxI u1l u1h d1l d1h u2l u2h d2l d2h u3l u3h d3l d3h bu1 bd1 bu2 bd2 bu3 bd3 i m cs ∧ wr = lay w (.inr e :: [.inl (Obj.cells cs 25), .inr d1, .inl (Obj.cells #[.int .i64 u, .int .i64 x] 30), .inl (Obj.cells #[vp, vs] 38)])) (fun v11 _ _ => (3 - intOf v11).toNat)
      case atStart => exact ⟨0, false, _, noExt _, rfl, rfl, TxI.t0, (bw_noExt _).symm⟩
      case round =>
        obtain ⟨i, m, cs, dd, rfl, rfl, hI, rfl⟩ := hrel
        cases hI
        case t0 =>
          clear HC1 HU1 HD1
          clear HC2 HU2 HD2
          go_wp2_with fail
          refine region_mixS 10 [(0, 0), (1, 0), (3, 2), (4, 2), (7, 2), (8, 2), (9, 2), (2, 1), (5, 1), (6, 1), (10, 3), (11, 2), (12, 2), (13, 2), (14, 2), (15, 2)] (by kernel_rfl) (by kernel_rfl) (by kernel_rfl) rfl ?_
          iterate 2 (refine wpMS_quiet rfl (fun K hK => ?_); go_simp; first | (refine hK _ ?_; clear hK K) | (apply Exists.intro; refine ⟨fun _ => ?_, hK _ ?_⟩; clear hK K))
          iterate 5 (refine wpMS_pure rfl (fun K hK => ?_); go_simp; refine hK _ ?_; clear hK K)
          refine wpMS_special rfl (fun K hK x1 => ?_)
          rw [lay_bw]
          go_simp
          refine (HLm.out _).mono ?_
          rintro e w' ⟨rfl, rfl⟩
          refine ⟨_, rfl, hK _ _ (lay_in w [_, _] _) ?_⟩
          clear hK K
          refine wpMS_special rfl (fun K hK x2 => ?_)
          rw [lay_bw]
          go_simp
          refine hK _ _ (lay_in w [_, _, _] _) ?_
          clear hK K
          refine wpMS_special rfl (fun K hK x3 => ?_)
          rw [lay_bw]
          go_simp
          refine hK _ _ (lay_in w [_, _, _, _] _) ?_
          clear hK K
          refine wpMS_store rfl (fun K hK x4 => ?_)
          rw [lay_bw]
          go_simp
          refine (HC3.out _).mono ?_
          rintro e w' ⟨v, d5, rfl, rfl, hv⟩
          rw [lay_bw] at hv ⊢
          have HV := Lib.hid hv
          clear hv
          refine ⟨_, rfl, hK _ _ ?_⟩
          clear hK K
          iterate 5 (refine wpMS_pure rfl (fun K hK => ?_); go_simp; refine hK _ ?_; clear hK K)
          refine wpMS_nil (fun x5 => ?_)
          rw [lay_bw]
          go_wp2_with fail
          refine (HU3.out _ _ (slG_on (A := [_]) HV.out)).mono ?_
          rintro e w' ⟨rfl, d6, rfl⟩
          rw [lay_bw]
          go_wp2_with fail
          refine (HD3.out _ _ (slG_on (A := [_, _, _]) HV.out)).mono ?_
          rintro e w' ⟨rfl, d7, rfl⟩
          rw [lay_bw]
          clear HV HC3 HU3 HD3 HDy HLm hmk
          have HMN : Hid (∀ b : Bool, (false || !bu3 || !bd3) = b → TxI u1l u1h d1l d1h u2l u2h d2l d2h u3l u3h d3l d3h bu1 bd1 bu2 bd2 bu3 bd3 1 b #[.int .i64 u3l, .int .i64 u3h, .int .i64 0, .int .i64 0, .int .i64 0, .int .i64 0, .int .i64 0, .int .i64 0, .int .i64 0, .int .i64 0, .int .i64 d3l, .int .i64 d3h]) := Lib.hid (fun b hb => by subst hb; exact TxI.t1)
          cases bu3
          · skip
            go_wp2_with fail
            go_region
            rw [bw_drewExt, lay_bw]
            go_wp2_with fail
            go_roundw
            case rel => exact ⟨1, _, _, _, rfl, rfl, HMN.out _ rfl, (lay_fold w [_, _, _, _, _, _, _, _, _, _, _, _, _] _).choose_spec⟩
            case measure => simp [intOf]
          · cases bd3
            · skip
              go_wp2_with fail
              go_region
              rw [bw_drewExt, lay_bw]
              go_wp2_with fail
              go_roundw
              case rel => exact ⟨1, _, _, _, rfl, rfl, HMN.out _ rfl, (lay_fold w [_, _, _, _, _, _, _, _, _, _, _, _, _] _).choose_spec⟩
              case measure => simp [intOf]
            · skip
              go_wp2_with fail
              go_region
              rw [bw_drewExt, lay_bw]
              go_wp2_with fail
              go_roundw
              case rel => exact ⟨1, _, _, _, rfl, rfl, HMN.out _ rfl, (lay_fold w [_, _, _, _, _, _, _, _, _, _, _, _, _] _).choose_spec⟩
              case measure => simp [intOf]
        case t1 =>
          obtain ⟨m, hm⟩ : ∃ m, (!bu3 || !bd3) = m := ⟨_, rfl⟩
          rw [hm]
          have HM := Lib.hid hm
          clear hm
          clear HC1 HU1 HD1
          clear HC3 HU3 HD3
          go_wp2_with fail
          refine region_mixS 10 [(0, 0), (1, 0), (3, 2), (4, 2), (7, 2), (8, 2), (9, 2), (2, 1), (5, 1), (6, 1), (10, 3), (11, 2), (12, 2), (13, 2), (14, 2), (15, 2)] (by kernel_rfl) (by kernel_rfl) (by kernel_rfl) rfl ?_
          iterate 2 (refine wpMS_quiet rfl (fun K hK => ?_); go_simp; first | (refine hK _ ?_; clear hK K) | (apply Exists.intro; refine ⟨fun _ => ?_, hK _ ?_⟩; clear hK K))
          iterate 5 (refine wpMS_pure rfl (fun K hK => ?_); go_simp; refine hK _ ?_; clear hK K)
          refine wpMS_special rfl (fun K hK x1 => ?_)
          rw [lay_bw]
          go_simp
          refine (HLm.out _).mono ?_
          rintro e w' ⟨rfl, rfl⟩
          refine ⟨_, rfl, hK _ _ (lay_in w [_, _] _) ?_⟩
          clear hK K
          refine wpMS_special rfl (fun K hK x2 => ?_)
          rw [lay_bw]
          go_simp
          refine hK _ _ (lay_in w [_, _, _] _) ?_
          clear hK K
          refine wpMS_special rfl (fun K hK x3 => ?_)
          rw [lay_bw]
          go_simp
          refine hK _ _ (lay_in w [_, _, _, _] _) ?_
          clear hK K
          refine wpMS_store rfl (fun K hK x4 => ?_)
          rw [lay_bw]
          go_simp
          refine (HC2.out _).mono ?_
          rintro e w' ⟨v, d5, rfl, rfl, hv⟩
          rw [lay_bw] at hv ⊢
          have HV := Lib.hid hv
          clear hv
          refine ⟨_, rfl, hK _ _ ?_⟩
          clear hK K
          iterate 5 (refine wpMS_pure rfl (fun K hK => ?_); go_simp; refine hK _ ?_; clear hK K)
          refine wpMS_nil (fun x5 => ?_)
          rw [lay_bw]
          go_wp2_with fail
          refine (HU2.out _ _ (slG_on (A := [_]) HV.out)).mono ?_
          rintro e w' ⟨rfl, d6, rfl⟩
          rw [lay_bw]
          go_wp2_with fail
          refine (HD2.out _ _ (slG_on (A := [_, _, _]) HV.out)).mono ?_
          rintro e w' ⟨rfl, d7, rfl⟩
          rw [lay_bw]
          clear HV HC2 HU2 HD2 HDy HLm hmk
          have HMN : Hid (∀ b : Bool, (m || !bu2 || !bd2) = b → TxI u1l u1h d1l d1h u2l u2h d2l d2h u3l u3h d3l d3h bu1 bd1 bu2 bd2 bu3 bd3 2 b #[.int .i64 u3l, .int .i64 u3h, .int .i64 u2l, .int .i64 u2h, .int .i64 0, .int .i64 0, .int .i64 0, .int .i64 0, .int .i64 d2l, .int .i64 d2h, .int .i64 d3l, .int .i64 d3h]) := Lib.hid (fun b hb => by subst hb; exact by rw [← HM.out]; exact TxI.t2)
          cases m
          · cases bu2
            · skip
              go_wp2_with fail
              go_region
              rw [bw_drewExt, lay_bw]
              go_wp2_with fail
              go_roundw
              case rel => exact ⟨2, _, _, _, rfl, rfl, HMN.out _ rfl, (lay_fold w [_, _, _, _, _, _, _, _, _, _, _, _, _] _).choose_spec⟩
              case measure => simp [intOf]
            · cases bd2
              · skip
                go_wp2_with fail
                go_region
                rw [bw_drewExt, lay_bw]
                go_wp2_with fail
                go_roundw
                case rel => exact ⟨2, _, _, _, rfl, rfl, HMN.out _ rfl, (lay_fold w [_, _, _, _, _, _, _, _, _, _, _, _, _] _).choose_spec⟩
                case measure => simp [intOf]
              · skip
                go_wp2_with fail
                go_region
                rw [bw_drewExt, lay_bw]
                go_wp2_with fail
                go_roundw
                case rel => exact ⟨2, _, _, _, rfl, rfl, HMN.out _ rfl, (lay_fold w [_, _, _, _, _, _, _, _, _, _, _, _, _] _).choose_spec⟩
                case measure => simp [intOf]
          · skip
            go_wp2_with fail
            go_region
            rw [bw_drewExt, lay_bw]
            go_wp2_with fail
            go_roundw
            case rel => exact ⟨2, _, _, _, rfl, rfl, HMN.out _ rfl, (lay_fold w [_, _, _, _, _, _, _, _, _, _, _, _, _] _).choose_spec⟩
            case measure => simp [intOf]
        case t2 =>
          obtain ⟨m, hm⟩ : ∃ m, (!bu3 || !bd3 || !bu2 || !bd2) = m := ⟨_, rfl⟩
          rw [hm]
          have HM := Lib.hid hm
          clear hm
          clear HC2 HU2 HD2
          clear HC3 HU3 HD3
          go_wp2_with fail
          refine region_mixS 10 [(0, 0), (1, 0), (3, 2), (4, 2), (7, 2), (8, 2), (9, 2), (2, 1), (5, 1), (6, 1), (10, 3), (11, 2), (12, 2), (13, 2), (14, 2), (15, 2)] (by kernel_rfl) (by kernel_rfl) (by kernel_rfl) rfl ?_
          iterate 2 (refine wpMS_quiet rfl (fun K hK => ?_); go_simp; first | (refine hK _ ?_; clear hK K) | (apply Exists.intro; refine ⟨fun _ => ?_, hK _ ?_⟩; clear hK K))
          iterate 5 (refine wpMS_pure rfl (fun K hK => ?_); go_simp; refine hK _ ?_; clear hK K)
          refine wpMS_special rfl (fun K hK x1 => ?_)
          rw [lay_bw]
          go_simp
          refine (HLm.out _).mono ?_
          rintro e w' ⟨rfl, rfl⟩
          refine ⟨_, rfl, hK _ _ (lay_in w [_, _] _) ?_⟩
          clear hK K
          refine wpMS_special rfl (fun K hK x2 => ?_)
          rw [lay_bw]
          go_simp
          refine hK _ _ (lay_in w [_, _, _] _) ?_
          clear hK K
          refine wpMS_special rfl (fun K hK x3 => ?_)
          rw [lay_bw]
          go_simp
          refine hK _ _ (lay_in w [_, _, _, _] _) ?_
          clear hK K
          refine wpMS_store rfl (fun K hK x4 => ?_)
          rw [lay_bw]
          go_simp
          refine (HC1.out _).mono ?_
          rintro e w' ⟨v, d5, rfl, rfl, hv⟩
          rw [lay_bw] at hv ⊢
          have HV := Lib.hid hv
          clear hv
          refine ⟨_, rfl, hK _ _ ?_⟩
          clear hK K
          iterate 5 (refine wpMS_pure rfl (fun K hK => ?_); go_simp; refine hK _ ?_; clear hK K)
          refine wpMS_nil (fun x5 => ?_)
          rw [lay_bw]
          go_wp2_with fail
          refine (HU1.out _ _ (slG_on (A := [_]) HV.out)).mono ?_
          rintro e w' ⟨rfl, d6, rfl⟩
          rw [lay_bw]
          go_wp2_with fail
          refine (HD1.out _ _ (slG_on (A := [_, _, _]) HV.out)).mono ?_
          rintro e w' ⟨rfl, d7, rfl⟩
          rw [lay_bw]
          clear HV HC1 HU1 HD1 HDy HLm hmk
          have HMN : Hid (∀ b : Bool, (m || !bu1 || !bd1) = b → TxI u1l u1h d1l d1h u2l u2h d2l d2h u3l u3h d3l d3h bu1 bd1 bu2 bd2 bu3 bd3 3 b #[.int .i64 u3l, .int .i64 u3h, .int .i64 u2l, .int .i64 u2h, .int .i64 u1l, .int .i64 u1h, .int .i64 d1l, .int .i64 d1h, .int .i64 d2l, .int .i64 d2h, .int .i64 d3l, .int .i64 d3h]) := Lib.hid (fun b hb => by subst hb; exact by rw [← HM.out]; exact TxI.t3)
          cases m
          · cases bu1
            · skip
              go_wp2_with fail
              go_region
              rw [bw_drewExt, lay_bw]
              go_wp2_with fail
              go_roundw
              case rel => exact ⟨3, _, _, _, rfl, rfl, HMN.out _ rfl, (lay_fold w [_, _, _, _, _, _, _, _, _, _, _, _, _] _).choose_spec⟩
              case measure => simp [intOf]
            · cases bd1
              · skip
                go_wp2_with fail
                go_region
                rw [bw_drewExt, lay_bw]
                go_wp2_with fail
                go_roundw
                case rel => exact ⟨3, _, _, _, rfl, rfl, HMN.out _ rfl, (lay_fold w [_, _, _, _, _, _, _, _, _, _, _, _, _] _).choose_spec⟩
                case measure => simp [intOf]
              · skip
                go_wp2_with fail
                go_region
                rw [bw_drewExt, lay_bw]
                go_wp2_with fail
                go_roundw
                case rel => exact ⟨3, _, _, _, rfl, rfl, HMN.out _ rfl, (lay_fold w [_, _, _, _, _, _, _, _, _, _, _, _, _] _).choose_spec⟩
                case measure => simp [intOf]
          · skip
            go_wp2_with fail
            go_region
            rw [bw_drewExt, lay_bw]
            go_wp2_with fail
            go_roundw
            case rel => exact ⟨3, _, _, _, rfl, rfl, HMN.out _ rfl, (lay_fold w [_, _, _, _, _, _, _, _, _, _, _, _, _] _).choose_spec⟩
            case measure => simp [intOf]
        case t3 =>
          obtain ⟨m, hm⟩ : ∃ m, (!bu3 || !bd3 || !bu2 || !bd2 || !bu1 || !bd1) = m := ⟨_, rfl⟩
          rw [hm]
          have hm2 : (!bu1 || !bd1 || !bu2 || !bd2 || !bu3 || !bd3) = m := by rw [← hm]; cases bu1 <;> cases bd1 <;> cases bu2 <;> cases bd2 <;> cases bu3 <;> cases bd3 <;> rfl
          rw [hm2] at hTE
          clear hm hm2 HC1 HC2 HC3 HU1 HU2 HU3 HD1 HD2 HD3
          cases m
          · have h0 : TE = 0 := hTE.out
            have HT := Lib.hid h0
            clear hTE h0
            go_wp2_with fail
            refine bodyPost_ret (v := .tuple #[.slice (some ⟨posn w [d1.n, 1, 1], 0, none⟩) 6 6, .int .i64 0]) (by simp [results, Tryz.results26, go_sem]) rfl ⟨lay_ex _ _, .inr ⟨HT.out, _, rfl, ?_⟩⟩
            refine ⟨_, 0, 6, rfl, Nat.le_refl _, by rw [lay_size]; simp [posn, shp]; omega, ?_⟩
            intro i y hy
            match i, hy with
            | 0, hy => cases hy; exact ⟨by simp [go_sem], by simp [go_sem]⟩
            | 1, hy => cases hy; exact ⟨by simp [go_sem], by simp [go_sem]⟩
            | 2, hy => cases hy; exact ⟨by simp [go_sem], by simp [go_sem]⟩
            | 3, hy => cases hy; exact ⟨by simp [go_sem], by simp [go_sem]⟩
            | 4, hy => cases hy; exact ⟨by simp [go_sem], by simp [go_sem]⟩
            | 5, hy => cases hy; exact ⟨by simp [go_sem], by simp [go_sem]⟩
            | n + 6, hy => simp at hy
          · have h0 : TE = 12 := hTE.out
            have HT := Lib.hid h0
            clear hTE h0
            go_wp2_with fail
            exact bodyPost_ret (v := .tuple #[.slice none 0 0, .int .i64 12]) (by simp [results, Tryz.results26, go_sem]) rfl ⟨lay_ex _ _, .inl ⟨by rw [HT.out]; decide, by rw [HT.out]⟩⟩
    · have hTE := Lib.hid (twE_err (S := S) hT hd her)
      have HC1 : Hid (∀ L, Calls _ _ _ (lay w L) fun e w' => e = .returned (.tuple #[.slice none 0 0, .int .i64 (erF E (smp f T))]) ∧ ∃ d, w' = bw (lay w L) d) := Lib.hid (fun L => (HC0 (-1080000) L).mono (fun e w' h => by obtain ⟨hd, ⟨_, h2⟩ | ⟨h1, _⟩⟩ := h; exact ⟨h2, hd⟩; exact absurd h1 her))
      have hPost : TwPost S E f w = fun e w' => (∃ d, w' = bw w d) ∧ ((twE S E f ≠ 0 ∧ e = .returned (.tuple #[.slice none 0 0, .int .i64 (twE S E f)])) ∨ (twE S E f = 0 ∧ ∃ v, e = .returned (.tuple #[v, .int .i64 0]) ∧ TmC w' v (twL (crF (S (-360000)) (smp f (f + 86400000)) 0 0) (crF (S (-720000)) (smp f (f + 86400000)) 0 0) (crF (S (-1080000)) (smp f (f + 86400000)) 0 0)))) := rfl
      rw [hPost]
      clear hPost HC0 hlen hS3 HS0 i1 i2 f0 f1 hd
      generalize twL (crF (S (-360000)) (smp f (f + 86400000)) 0 0) (crF (S (-720000)) (smp f (f + 86400000)) 0 0) (crF (S (-1080000)) (smp f (f + 86400000)) 0 0) = LL at *
      generalize twE S E f = TE at *
      generalize erF E (smp f T) = EX at *
      have hTX : TE = EX := hTE.out
      subst hTX
      have g1 : (TE != 0) = true := by simpa using her
      have g2 : (TE == 0) = false := beq_eq_false_iff_ne.2 her
      clear hTE
      refine lay_start ?_
      go_enter Tryz.func26, Tryz.ntmps26
      go_wp2_with (first | (go_at_call 56; refine (HDy.out _).mono ?_; rintro e w' ⟨rfl, d1, rfl⟩; rw [lay_bw]))
      go_loopw [11, 10] (fun v11 v10 wr => ∃ (e : Ext), v11 = .int .i64 0 ∧ v10 = .bool false ∧ wr = lay w (.inr e :: [.inl (Obj.cells #[.int .i64 0, .int .i64 0, .int .i64 0, .int .i64 0, .int .i64 0, .int .i64 0, .int .i64 0, .int .i64 0, .int .i64 0, .int .i64 0, .int .i64 0, .int .i64 0] 25), .inr d1, .inl (Obj.cells #[.int .i64 u, .int .i64 x] 30), .inl (Obj.cells #[vp, vs] 38)])) (fun v11 _ _ => (3 - intOf v11).toNat)
      case atStart => exact ⟨noExt _, rfl, rfl, (bw_noExt _).symm⟩
      case round =>
        obtain ⟨dd, rfl, rfl, rfl⟩ := hrel
        go_wp2_with fail
        refine region_mixS 10 [(0, 0), (1, 0), (3, 2), (4, 2), (7, 2), (8, 2), (9, 2), (2, 1), (5, 1), (6, 1), (10, 3), (11, 2), (12, 2), (13, 2), (14, 2), (15, 2)] (by kernel_rfl) (by kernel_rfl) (by kernel_rfl) rfl ?_
        iterate 2 (refine wpMS_quiet rfl (fun K hK => ?_); go_simp; first | (refine hK _ ?_; clear hK K) | (apply Exists.intro; refine ⟨fun _ => ?_, hK _ ?_⟩; clear hK K))
        iterate 5 (refine wpMS_pure rfl (fun K hK => ?_); go_simp; refine hK _ ?_; clear hK K)
        refine wpMS_special rfl (fun K hK x1 => ?_)
        rw [lay_bw]
        go_simp
        refine (HLm.out _).mono ?_
        rintro e w' ⟨rfl, rfl⟩
        refine ⟨_, rfl, hK _ _ (lay_in w [_, _] _) ?_⟩
        clear hK K
        refine wpMS_special rfl (fun K hK x2 => ?_)
        rw [lay_bw]
        go_simp
        refine hK _ _ (lay_in w [_, _, _] _) ?_
        clear hK K
        refine wpMS_special rfl (fun K hK x3 => ?_)
        rw [lay_bw]
        go_simp
        refine hK _ _ (lay_in w [_, _, _, _] _) ?_
        clear hK K
        refine wpMS_store rfl (fun K hK x4 => ?_)
        rw [lay_bw]
        go_simp
        refine (HC1.out _).mono ?_
        rintro e w' ⟨rfl, d5, rfl⟩
        rw [lay_bw]
        refine ⟨_, rfl, hK _ _ ?_⟩
        clear hK K
        iterate 5 (refine wpMS_pure rfl (fun K hK => ?_); go_simp; refine hK _ ?_; clear hK K)
        refine wpMS_nil (fun x5 => ?_)
        rw [lay_bw]
        go_wp2_with fail
        exact bodyPost_ret (v := .tuple #[.slice none 0 0, .int .i64 TE]) (by simp [results, Tryz.results26, go_sem]) rfl ⟨lay_ex _ _, .inl ⟨her, rfl⟩⟩
  · have hT2 : twE S E f = dyE f := twE_day hd
    have hPost : TwPost S E f w = fun e w' => (∃ d, w' = bw w d) ∧ ((twE S E f ≠ 0 ∧ e = .returned (.tuple #[.slice none 0 0, .int .i64 (twE S E f)])) ∨ (twE S E f = 0 ∧ ∃ v, e = .returned (.tuple #[v, .int .i64 0]) ∧ TmC w' v (twL (crF (S (-360000)) (smp f (f + 86400000)) 0 0) (crF (S (-720000)) (smp f (f + 86400000)) 0 0) (crF (S (-1080000)) (smp f (f + 86400000)) 0 0)))) := rfl
    rw [hPost, hT2]
    generalize twL (crF (S (-360000)) (smp f (f + 86400000)) 0 0) (crF (S (-720000)) (smp f (f + 86400000)) 0 0) (crF (S (-1080000)) (smp f (f + 86400000)) 0 0) = LL at *
    clear hS3 HS0 HLm hPost hT2
    have g1 : (dyE f != 0) = true := by simpa using hd
    have g2 : (dyE f == 0) = false := beq_eq_false_iff_ne.2 hd
    generalize dyE f = DE at *
    refine lay_start ?_
    go_enter Tryz.func26, Tryz.ntmps26
    go_wp2_with (first | (go_at_call 56; refine (HDy.out _).mono ?_; rintro e w' ⟨rfl, d1, rfl⟩; rw [lay_bw]))
    exact bodyPost_ret (v := .tuple #[.slice none 0 0, .int .i64 DE]) (by simp [results, Tryz.results26, go_sem]) rfl ⟨lay_ex _ _, .inl ⟨hd, rfl⟩⟩
end Go.Proofs.YthjfadfebhjhbaaGreat

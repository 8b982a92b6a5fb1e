/- Contracts and plain laws, several texts in one: LgM; LgN; LgO; TpD; LgP; TpE -/
import Derived.Test.YtcbicpbbjbkiaaaGreatDoorProg
import Derived.WalkKit
import Derived.WalkSpells
import Derived.WalkLawsBesides
import Derived.Lib.Hide
import Derived.BigQuiet
import Derived.Test.YtcbicpbbjbkiaaaGreatDoorZmAA
import Derived.Test.YtcbicpbbjbkiaaaGreatDoorZmAB
import Derived.Test.YtcbicpbbjbkiaaaGreatDoorZmAC
import Derived.Test.YtcbicpbbjbkiaaaGreatDoorZmAF
import Derived.Test.YtcbicpbbjbkiaaaGreatDoorZmAK
namespace Go.Proofs.YtcbicpbbjbkiaaaGreatDoor
open Go.RowKit

theorem results_cell2 {fn : Func} {i j : Tmp} {T : TypeId} {tmps : Array Value} {P : Program} {W : World} {addr : Addr} {v u : Value} (h : fn.results = #[.cell i T, .tmp j]) (ht : tmps.getD i undef = .pointer (some addr)) (hj : tmps.getD j undef = u) (hl : (loadVar T addr).run P W = .ok v W) :
  (results fn tmps).run P W = .ok (.tuple #[v, u]) W := by
 unfold results
 rw [h]
 have e2 : asAddr (.pointer (some addr)) = pure addr := rfl
 have hm : ∀ g : ResultVar → Sem Value, Array.mapM g #[ResultVar.cell i T, ResultVar.tmp j] = (do let x ← g (.cell i T); let y ← g (.tmp j); pure #[x, y]) := fun g => by simp
 rw [hm]
 dsimp only
 rw [ht, e2, hj]
 simp only [Sem.run_bind, Sem.run_pure, Result.andThen_ok, hl]
 rfl
def nxB : List Int := [5, 0, 0, 0, 0, 0, 0, 0, 0, 0, 0, 0, 0, 0, 0, 0, 0, 0, 1, 120]
theorem nxB_eq : notB ⟨#[120]⟩ = nxB := by decide +kernel
def ztC : Array Value := #[.int .i64 5, .int .i64 0, .int .i64 0, .int .i64 0, .int .i64 0, .int .i64 0, .int .i64 0, .int .i64 0, .int .i64 0, .int .i64 0, .int .i64 0, .string ⟨#[]⟩, .int .i64 0, .int .i64 0, .int .i64 0, .int .i64 0, .int .i64 0, .int .i64 0, .int .i64 0, .int .i64 0, .int .i64 0, .int .i64 0, .slice none 0 0, .string ⟨#[]⟩]
theorem into_x : csF ztC [1, 2] (nxB.drop 1) = ztC := by kernel_rfl
set_option maxHeartbeats 4000000 in
set_option maxRecDepth 100000 in
theorem lg_Decode_x (v : Value) (w : World) (hv : SlG bR w v nxB) :
  Calls Tryz.prog 77 #[v] w fun e w' => e = .returned (.tuple #[notV ⟨#[120]⟩, .int .i64 0]) ∧ ∃ d, w' = bw w d := by
 have HV := Lib.hid (fun W => lg_ValidRecord_x W)
 unfold notV notC at HV
 obtain ⟨b, o, cap, rfl, hc, hb⟩ := slB_open hv (by decide)
 have hz := slB_cell (i := 0) (x := 5) hv rfl
 rw [Nat.add_zero] at hz
 have hp := (rd_parts (n := 1) hv (by decide)).2
 rw [if_neg (show ¬ cap = 1 by have := hc.1; rw [show nxB.length = 20 from rfl] at this; omega)] at hp
 rw [show nxB.length - 1 = 19 from rfl] at hp
 rw [show nxB.length = 20 from rfl] at hc ⊢
 have HP := Lib.hid hp
 have hc1 : ¬ cap = 1 := by omega
 clear hv hp
 refine lay_start ?_
 go_enter Tryz.func77, Tryz.ntmps77
 go_wp2_with fail
 have hpos : posn w [1] = w.heap.size + 1 ∧ posn w [1, 1] = w.heap.size + 2 ∧ posn w [1, 1, 1] = w.heap.size + 3 := ⟨rfl, rfl, rfl⟩
 obtain ⟨q1, q2, q3⟩ := hpos
 have g3 := lay_get w [.inl (.cells #[.pointer (some ⟨posn w [1, 1], 1, none⟩), .pointer (some ⟨posn w [1, 1], 2, none⟩)] 235 (0, 0)), .inl (.cells #[.int .i64 5, .int .i64 0, .int .i64 0, .int .i64 0, .int .i64 0, .int .i64 0, .int .i64 0, .int .i64 0, .int .i64 0, .int .i64 0, .int .i64 0, .string ⟨#[]⟩, .int .i64 0, .int .i64 0, .int .i64 0, .int .i64 0, .int .i64 0, .int .i64 0, .int .i64 0, .int .i64 0, .int .i64 0, .int .i64 0, .slice none 0 0, .string ⟨#[]⟩] 78 (0, 0)), .inl (.cells #[.slice (some ⟨b, o + 1, none⟩) 19 (cap - 1), .bool false] 232 (0, 0)), .inl (.cells #[.int .i64 0, .int .i64 0, .int .i64 0, .int .i64 0, .int .i64 0, .int .i64 0, .int .i64 0, .int .i64 0, .int .i64 0, .int .i64 0, .int .i64 0, .string ⟨#[]⟩, .int .i64 0, .int .i64 0, .int .i64 0, .int .i64 0, .int .i64 0, .int .i64 0, .int .i64 0, .int .i64 0, .int .i64 0, .int .i64 0, .slice none 0 0, .string ⟨#[]⟩] 78 (0, 0))] 0 _ rfl
 have hR : RdI (lay w [.inl (.cells #[.pointer (some ⟨posn w [1, 1], 1, none⟩), .pointer (some ⟨posn w [1, 1], 2, none⟩)] 235 (0, 0)), .inl (.cells #[.int .i64 5, .int .i64 0, .int .i64 0, .int .i64 0, .int .i64 0, .int .i64 0, .int .i64 0, .int .i64 0, .int .i64 0, .int .i64 0, .int .i64 0, .string ⟨#[]⟩, .int .i64 0, .int .i64 0, .int .i64 0, .int .i64 0, .int .i64 0, .int .i64 0, .int .i64 0, .int .i64 0, .int .i64 0, .int .i64 0, .slice none 0 0, .string ⟨#[]⟩] 78 (0, 0)), .inl (.cells #[.slice (some ⟨b, o + 1, none⟩) 19 (cap - 1), .bool false] 232 (0, 0)), .inl (.cells #[.int .i64 0, .int .i64 0, .int .i64 0, .int .i64 0, .int .i64 0, .int .i64 0, .int .i64 0, .int .i64 0, .int .i64 0, .int .i64 0, .int .i64 0, .string ⟨#[]⟩, .int .i64 0, .int .i64 0, .int .i64 0, .int .i64 0, .int .i64 0, .int .i64 0, .int .i64 0, .int .i64 0, .int .i64 0, .int .i64 0, .slice none 0 0, .string ⟨#[]⟩] 78 (0, 0))]) (posn w [1]) b (o + 1) (cap - 1) (nxB.drop 1) := ⟨lay_get w _ 2 _ rfl, HP.out.lay _, by omega⟩
 have HN := Lib.hid (rd_into (posn w [1]) b (o + 1) (cap - 1) (posn w [1, 1]) (posn w [1, 1, 1]) [1, 2] (nxB.drop 1) ztC _ (lay w [.inl (.cells #[.pointer (some ⟨posn w [1, 1], 1, none⟩), .pointer (some ⟨posn w [1, 1], 2, none⟩)] 235 (0, 0)), .inl (.cells #[.int .i64 5, .int .i64 0, .int .i64 0, .int .i64 0, .int .i64 0, .int .i64 0, .int .i64 0, .int .i64 0, .int .i64 0, .int .i64 0, .int .i64 0, .string ⟨#[]⟩, .int .i64 0, .int .i64 0, .int .i64 0, .int .i64 0, .int .i64 0, .int .i64 0, .int .i64 0, .int .i64 0, .int .i64 0, .int .i64 0, .slice none 0 0, .string ⟨#[]⟩] 78 (0, 0)), .inl (.cells #[.slice (some ⟨b, o + 1, none⟩) 19 (cap - 1), .bool false] 232 (0, 0)), .inl (.cells #[.int .i64 0, .int .i64 0, .int .i64 0, .int .i64 0, .int .i64 0, .int .i64 0, .int .i64 0, .int .i64 0, .int .i64 0, .int .i64 0, .int .i64 0, .string ⟨#[]⟩, .int .i64 0, .int .i64 0, .int .i64 0, .int .i64 0, .int .i64 0, .int .i64 0, .int .i64 0, .int .i64 0, .int .i64 0, .int .i64 0, .slice none 0 0, .string ⟨#[]⟩] 78 (0, 0))]) hR (lay_get w _ 1 _ rfl) (by omega) (by omega) (by decide) (fun i j hj => by
  rcases i with _ | _ | i
  ·cases hj
   unfold World.cell?
   dsimp only
   rw [show (lay w [.inl (.cells #[.pointer (some ⟨posn w [1, 1], 1, none⟩), .pointer (some ⟨posn w [1, 1], 2, none⟩)] 235 (0, 0)), .inl (.cells #[.int .i64 5, .int .i64 0, .int .i64 0, .int .i64 0, .int .i64 0, .int .i64 0, .int .i64 0, .int .i64 0, .int .i64 0, .int .i64 0, .int .i64 0, .string ⟨#[]⟩, .int .i64 0, .int .i64 0, .int .i64 0, .int .i64 0, .int .i64 0, .int .i64 0, .int .i64 0, .int .i64 0, .int .i64 0, .int .i64 0, .slice none 0 0, .string ⟨#[]⟩] 78 (0, 0)), .inl (.cells #[.slice (some ⟨b, o + 1, none⟩) 19 (cap - 1), .bool false] 232 (0, 0)), .inl (.cells #[.int .i64 0, .int .i64 0, .int .i64 0, .int .i64 0, .int .i64 0, .int .i64 0, .int .i64 0, .int .i64 0, .int .i64 0, .int .i64 0, .int .i64 0, .string ⟨#[]⟩, .int .i64 0, .int .i64 0, .int .i64 0, .int .i64 0, .int .i64 0, .int .i64 0, .int .i64 0, .int .i64 0, .int .i64 0, .int .i64 0, .slice none 0 0, .string ⟨#[]⟩] 78 (0, 0))]).heap[posn w [1, 1, 1]]? = _ from g3]
   rfl
  ·cases hj
   unfold World.cell?
   dsimp only
   rw [show (lay w [.inl (.cells #[.pointer (some ⟨posn w [1, 1], 1, none⟩), .pointer (some ⟨posn w [1, 1], 2, none⟩)] 235 (0, 0)), .inl (.cells #[.int .i64 5, .int .i64 0, .int .i64 0, .int .i64 0, .int .i64 0, .int .i64 0, .int .i64 0, .int .i64 0, .int .i64 0, .int .i64 0, .int .i64 0, .string ⟨#[]⟩, .int .i64 0, .int .i64 0, .int .i64 0, .int .i64 0, .int .i64 0, .int .i64 0, .int .i64 0, .int .i64 0, .int .i64 0, .int .i64 0, .slice none 0 0, .string ⟨#[]⟩] 78 (0, 0)), .inl (.cells #[.slice (some ⟨b, o + 1, none⟩) 19 (cap - 1), .bool false] 232 (0, 0)), .inl (.cells #[.int .i64 0, .int .i64 0, .int .i64 0, .int .i64 0, .int .i64 0, .int .i64 0, .int .i64 0, .int .i64 0, .int .i64 0, .int .i64 0, .int .i64 0, .string ⟨#[]⟩, .int .i64 0, .int .i64 0, .int .i64 0, .int .i64 0, .int .i64 0, .int .i64 0, .int .i64 0, .int .i64 0, .int .i64 0, .int .i64 0, .slice none 0 0, .string ⟨#[]⟩] 78 (0, 0))]).heap[posn w [1, 1, 1]]? = _ from g3]
   rfl
  ·simp at hj) (by omega) (by omega) (by decide) (by decide))
 clear hR g3
 have HQ := Lib.hid (And.intro q1 (And.intro q2 q3))
 clear q1 q2 q3
 refine HN.out.mono ?_
 rintro e w' ⟨o2, W, d, rfl, rfl, hI⟩
 have e1 : W = lay w [.inl (.cells #[.pointer (some ⟨posn w [1, 1], 1, none⟩), .pointer (some ⟨posn w [1, 1], 2, none⟩)] 235 (0, 0)), .inl (.cells #[.int .i64 5, .int .i64 0, .int .i64 0, .int .i64 0, .int .i64 0, .int .i64 0, .int .i64 0, .int .i64 0, .int .i64 0, .int .i64 0, .int .i64 0, .string ⟨#[]⟩, .int .i64 0, .int .i64 0, .int .i64 0, .int .i64 0, .int .i64 0, .int .i64 0, .int .i64 0, .int .i64 0, .int .i64 0, .int .i64 0, .slice none 0 0, .string ⟨#[]⟩] 78 (0, 0)), .inl (.cells #[.slice (some ⟨b, o2, none⟩) 3 (cap - 1 - 16), .bool false] 232 (0, 0)), .inl (.cells #[.int .i64 0, .int .i64 0, .int .i64 0, .int .i64 0, .int .i64 0, .int .i64 0, .int .i64 0, .int .i64 0, .int .i64 0, .int .i64 0, .int .i64 0, .string ⟨#[]⟩, .int .i64 0, .int .i64 0, .int .i64 0, .int .i64 0, .int .i64 0, .int .i64 0, .int .i64 0, .int .i64 0, .int .i64 0, .int .i64 0, .slice none 0 0, .string ⟨#[]⟩] 78 (0, 0))] := by
  rw [hI.eq, show csF _ [1, 2] (nxB.drop 1) = ztC from into_x]
  unfold two
  refine (congrArg (fun V => World.setRow V (posn w [1, 1]) ztC) (lay_setRow w _ [.inl (.cells #[.pointer (some ⟨posn w [1, 1], 1, none⟩), .pointer (some ⟨posn w [1, 1], 2, none⟩)] 235 (0, 0)), .inl (.cells #[.int .i64 5, .int .i64 0, .int .i64 0, .int .i64 0, .int .i64 0, .int .i64 0, .int .i64 0, .int .i64 0, .int .i64 0, .int .i64 0, .int .i64 0, .string ⟨#[]⟩, .int .i64 0, .int .i64 0, .int .i64 0, .int .i64 0, .int .i64 0, .int .i64 0, .int .i64 0, .int .i64 0, .int .i64 0, .int .i64 0, .slice none 0 0, .string ⟨#[]⟩] 78 (0, 0)), .inl (.cells #[.slice (some ⟨b, o + 1, none⟩) 19 (cap - 1), .bool false] 232 (0, 0)), .inl (.cells #[.int .i64 0, .int .i64 0, .int .i64 0, .int .i64 0, .int .i64 0, .int .i64 0, .int .i64 0, .int .i64 0, .int .i64 0, .int .i64 0, .int .i64 0, .string ⟨#[]⟩, .int .i64 0, .int .i64 0, .int .i64 0, .int .i64 0, .int .i64 0, .int .i64 0, .int .i64 0, .int .i64 0, .int .i64 0, .int .i64 0, .slice none 0 0, .string ⟨#[]⟩] 78 (0, 0))] 2 2 rfl)).trans ?_
  exact lay_setRow w ztC [.inl (.cells #[.pointer (some ⟨posn w [1, 1], 1, none⟩), .pointer (some ⟨posn w [1, 1], 2, none⟩)] 235 (0, 0)), .inl (.cells #[.int .i64 5, .int .i64 0, .int .i64 0, .int .i64 0, .int .i64 0, .int .i64 0, .int .i64 0, .int .i64 0, .int .i64 0, .int .i64 0, .int .i64 0, .string ⟨#[]⟩, .int .i64 0, .int .i64 0, .int .i64 0, .int .i64 0, .int .i64 0, .int .i64 0, .int .i64 0, .int .i64 0, .int .i64 0, .int .i64 0, .slice none 0 0, .string ⟨#[]⟩] 78 (0, 0)), .inl (.cells #[.slice (some ⟨b, o2, none⟩) 3 (cap - 1 - 16), .bool false] 232 (0, 0)), .inl (.cells #[.int .i64 0, .int .i64 0, .int .i64 0, .int .i64 0, .int .i64 0, .int .i64 0, .int .i64 0, .int .i64 0, .int .i64 0, .int .i64 0, .int .i64 0, .string ⟨#[]⟩, .int .i64 0, .int .i64 0, .int .i64 0, .int .i64 0, .int .i64 0, .int .i64 0, .int .i64 0, .int .i64 0, .int .i64 0, .int .i64 0, .slice none 0 0, .string ⟨#[]⟩] 78 (0, 0))] 1 24 rfl
 have H2 : Hid (RdI (lay w [.inl (.cells #[.pointer (some ⟨posn w [1, 1], 1, none⟩), .pointer (some ⟨posn w [1, 1], 2, none⟩)] 235 (0, 0)), .inl (.cells #[.int .i64 5, .int .i64 0, .int .i64 0, .int .i64 0, .int .i64 0, .int .i64 0, .int .i64 0, .int .i64 0, .int .i64 0, .int .i64 0, .int .i64 0, .string ⟨#[]⟩, .int .i64 0, .int .i64 0, .int .i64 0, .int .i64 0, .int .i64 0, .int .i64 0, .int .i64 0, .int .i64 0, .int .i64 0, .int .i64 0, .slice none 0 0, .string ⟨#[]⟩] 78 (0, 0)), .inl (.cells #[.slice (some ⟨b, o2, none⟩) 3 (cap - 1 - 16), .bool false] 232 (0, 0)), .inl (.cells #[.int .i64 0, .int .i64 0, .int .i64 0, .int .i64 0, .int .i64 0, .int .i64 0, .int .i64 0, .int .i64 0, .int .i64 0, .int .i64 0, .int .i64 0, .string ⟨#[]⟩, .int .i64 0, .int .i64 0, .int .i64 0, .int .i64 0, .int .i64 0, .int .i64 0, .int .i64 0, .int .i64 0, .int .i64 0, .int .i64 0, .slice none 0 0, .string ⟨#[]⟩] 78 (0, 0))]) (posn w [1]) b o2 (cap - 1 - 16) [0, 1, 120]) := Lib.hid (by rw [← e1]; exact hI.rd)
 subst e1
 clear hI HN
 rw [lay_bw]
 go_wp2_with fail
 refine (rd_str (posn w [1]) b o2 (cap - 1 - 16) 0 1 [120] 1 (lay w (.inr d :: [.inl (.cells #[.pointer (some ⟨posn w [1, 1], 1, none⟩), .pointer (some ⟨posn w [1, 1], 2, none⟩)] 235 (0, 0)), .inl (.cells #[.int .i64 5, .int .i64 0, .int .i64 0, .int .i64 0, .int .i64 0, .int .i64 0, .int .i64 0, .int .i64 0, .int .i64 0, .int .i64 0, .int .i64 0, .string ⟨#[]⟩, .int .i64 0, .int .i64 0, .int .i64 0, .int .i64 0, .int .i64 0, .int .i64 0, .int .i64 0, .int .i64 0, .int .i64 0, .int .i64 0, .slice none 0 0, .string ⟨#[]⟩] 78 (0, 0)), .inl (.cells #[.slice (some ⟨b, o2, none⟩) 3 (cap - 1 - 16), .bool false] 232 (0, 0)), .inl (.cells #[.int .i64 0, .int .i64 0, .int .i64 0, .int .i64 0, .int .i64 0, .int .i64 0, .int .i64 0, .int .i64 0, .int .i64 0, .int .i64 0, .int .i64 0, .string ⟨#[]⟩, .int .i64 0, .int .i64 0, .int .i64 0, .int .i64 0, .int .i64 0, .int .i64 0, .int .i64 0, .int .i64 0, .int .i64 0, .int .i64 0, .slice none 0 0, .string ⟨#[]⟩] 78 (0, 0))])) (by exact H2.out.bw d) (by decide +kernel) (by decide)).mono ?_
 rintro e w' ⟨d2, rfl, rfl, -⟩
 obtain ⟨O, hO⟩ : ∃ O, O = rdO (rdO o2 (cap - 1 - 16) 2) (cap - 1 - 16 - 2) 1 := ⟨_, rfl⟩
 rw [← hO]
 have e2 : rdW (lay w (.inr d :: [.inl (.cells #[.pointer (some ⟨posn w [1, 1], 1, none⟩), .pointer (some ⟨posn w [1, 1], 2, none⟩)] 235 (0, 0)), .inl (.cells #[.int .i64 5, .int .i64 0, .int .i64 0, .int .i64 0, .int .i64 0, .int .i64 0, .int .i64 0, .int .i64 0, .int .i64 0, .int .i64 0, .int .i64 0, .string ⟨#[]⟩, .int .i64 0, .int .i64 0, .int .i64 0, .int .i64 0, .int .i64 0, .int .i64 0, .int .i64 0, .int .i64 0, .int .i64 0, .int .i64 0, .slice none 0 0, .string ⟨#[]⟩] 78 (0, 0)), .inl (.cells #[.slice (some ⟨b, o2, none⟩) 3 (cap - 1 - 16), .bool false] 232 (0, 0)), .inl (.cells #[.int .i64 0, .int .i64 0, .int .i64 0, .int .i64 0, .int .i64 0, .int .i64 0, .int .i64 0, .int .i64 0, .int .i64 0, .int .i64 0, .int .i64 0, .string ⟨#[]⟩, .int .i64 0, .int .i64 0, .int .i64 0, .int .i64 0, .int .i64 0, .int .i64 0, .int .i64 0, .int .i64 0, .int .i64 0, .int .i64 0, .slice none 0 0, .string ⟨#[]⟩] 78 (0, 0))])) (posn w [1]) b O (cap - 1 - 16 - 2 - 1) (List.drop 1 [120]) = lay w (.inr d :: [.inl (.cells #[.pointer (some ⟨posn w [1, 1], 1, none⟩), .pointer (some ⟨posn w [1, 1], 2, none⟩)] 235 (0, 0)), .inl (.cells #[.int .i64 5, .int .i64 0, .int .i64 0, .int .i64 0, .int .i64 0, .int .i64 0, .int .i64 0, .int .i64 0, .int .i64 0, .int .i64 0, .int .i64 0, .string ⟨#[]⟩, .int .i64 0, .int .i64 0, .int .i64 0, .int .i64 0, .int .i64 0, .int .i64 0, .int .i64 0, .int .i64 0, .int .i64 0, .int .i64 0, .slice none 0 0, .string ⟨#[]⟩] 78 (0, 0)), .inl (.cells #[.slice (some ⟨b, O, none⟩) 0 (cap - 1 - 16 - 2 - 1), .bool false] 232 (0, 0)), .inl (.cells #[.int .i64 0, .int .i64 0, .int .i64 0, .int .i64 0, .int .i64 0, .int .i64 0, .int .i64 0, .int .i64 0, .int .i64 0, .int .i64 0, .int .i64 0, .string ⟨#[]⟩, .int .i64 0, .int .i64 0, .int .i64 0, .int .i64 0, .int .i64 0, .int .i64 0, .int .i64 0, .int .i64 0, .int .i64 0, .int .i64 0, .slice none 0 0, .string ⟨#[]⟩] 78 (0, 0))]) := lay_setCell w _ [1] 0 _ (by simp) rfl rfl
 rw [e2, lay_bw, show strOfNums (List.take 1 [120]) = ⟨#[120]⟩ from rfl]
 clear hO H2 e2
 go_wp2_with fail
 refine (HV.out _).mono ?_
 rintro e w' ⟨rfl, d3, rfl⟩
 rw [lay_bw]
 go_wp2_with fail
 refine bodyPost_ret (v := .tuple #[notV ⟨#[120]⟩, .int .i64 0]) (results_cell2 rfl rfl rfl ?_) rfl ⟨rfl, lay_ex _ _⟩
 rw [ld_vrec_veil]
 refine (ld_vrec w _ [] ?_ ?_ ?_).trans ?_
 ·exact Nat.zero_lt_succ _
 ·rfl
 ·rfl
 ·rfl
def nxF : List Int := frF nxB
theorem nxF_app : appF [] 0 (-1) nxB = (nxF, 0, -1, 0) := by decide +kernel
theorem nxF_dsk : dskB nxF 0 (-1) = true := by decide +kernel
theorem nxF_dsk2 : dskB nxF 28 (-1) = true := by decide +kernel
theorem nxF_wh : whF nxF = nxF.length := by decide +kernel
theorem nxF_len : nxF.length = 28 := by decide +kernel
theorem nxF_rec : recL nxF = [nxB] := by decide +kernel
theorem emp_dsk : dskB [] 0 (-1) = true := by decide +kernel
theorem old_nil (w : World) : Old w (.slice none 0 0) := fun k hk => by cases hk
theorem nilc_nil : NilC (.slice none 0 0) := fun a n c e _ => by cases e; rfl
set_option maxHeartbeats 4000000 in
set_option maxRecDepth 100000 in
theorem lg_Save_x (g b : Nat) (v : Value) (w : World) (h : LogP w g b v [notX]) :
  Calls Tryz.prog 18 #[.pointer (some ⟨g, 0, none⟩), .agg #[.slice none 0 0, .int .i64 0, .int .i64 (-1)]] w (DskP w nxF 28 (-1) 0) := by
 have HR := Lib.hid (fun W => jn_Records_ok (.slice none 0 0) [] 0 (-1) W (SlG.nil _ _) (old_nil W) emp_dsk)
 have HE := Lib.hid (fun W => lg_encode ⟨#[120]⟩ (by decide) W)
 rw [nxB_eq] at HE
 unfold notV notC at HE
 have HA : Hid (∀ u W, SlG bR W u nxB → NilC u → Calls Tryz.prog 75 #[.agg #[.slice none 0 0, .int .i64 0, .int .i64 (-1)], u] W (DskP W nxF 0 (-1) 0)) := Lib.hid (fun u W hu hn => by
  have := jn_Append_ok (.slice none 0 0) u [] nxB 0 (-1) W (SlG.nil _ _) (old_nil W) nilc_nil hu hn emp_dsk (by decide) (by decide) rfl
  rw [nxF_app] at this
  exact this)
 have hb := h.lt
 have hc3 := h.c3
 obtain ⟨rb, ro, rc, rfl, hrc, hrl, -⟩ := h.row.open (by decide)
 have hrow : ∀ L, (ldRec (.pointer (some ⟨rb, ro, none⟩))).run Tryz.prog (lay w L) = .ok (.agg (notC ⟨#[120]⟩)) (lay w L) := fun L => by
  have := ld_row (h.row.lay L) (i := 0) (x := notX) rfl
  rwa [Nat.zero_mul, Nat.add_zero] at this
 rw [show [notX].length = 1 from rfl] at hc3 hrc
 unfold notC at hrow
 clear h
 refine lay_start ?_
 go_enter Tryz.func18, Tryz.ntmps18
 go_wp2_with fail
 refine (HR.out _).mono ?_
 rintro e w' ⟨v', d1, xs, rfl, rfl, hB⟩
 have hxl : xs.length = 0 := hB.len
 obtain ⟨va, vc, rfl⟩ := hB.row.form
 rw [hxl]
 clear hB
 rw [lay_bw]
 go_wp2_with fail
 refine wp_loop_rounds 1 ?_
 rw [rounds_succ]
 go_wp2_with fail
 refine wp_loop_rounds 2 ?_
 rw [rounds_succ]
 go_wp2_with fail
 -- the region
 refine region_mixB 9 (.q 0 (.q 1 (.two 2 (.two 3 (.q 4 (.q 5 (.q 6 (.one 7 (.one 8 .done))))) 7 (.one 3 (.q 4 (.q 5 (.q 6 (.one 8 .done)))))) 7 (.one 2 (.one 3 (.q 4 (.q 5 (.q 6 (.one 8 .done))))))))) (by kernel_rfl) (by kernel_rfl) (by kernel_rfl) (by kernel_rfl) (by simp) (by kernel_rfl) ?_
 simp only [List.drop_succ_cons, List.drop_zero]
 repeat (refine wpMB_quiet rfl (fun K hK => ?_); go_simp; refine hK _ ?_; clear hK K)
 refine wpMB_two ?_ ?_
 ·skip
  refine spB_of rfl (fun K hK eE => ?_)
  rw [lay_bw]
  go_simp
  refine (HE.out _).mono ?_
  rintro e w' ⟨u, dE, rfl, rfl, hu⟩
  rw [lay_bw] at hu ⊢
  obtain ⟨ua, uc, rfl⟩ := hu.form
  rw [show nxB.length = 20 from rfl] at hu ⊢
  have HU : Hid (SlG bR (lay w [.inr dE, .inr eE, .inl (.cells (notC ⟨#[120]⟩) 78 (0, 0)), .inr d1, .inl (.cells #[.slice none 0 0, .int .i64 0, .int .i64 0] 70 (0, 0)), .inl (.cells #[.slice none 0 0, .int .i64 0, .int .i64 (-1)] 70 (0, 0))]) (.slice ua 20 uc) nxB ∧ NilC (.slice ua 20 uc)) := Lib.hid ⟨hu.sl bOk, hu.nilc⟩
  clear hu
  refine ⟨_, rfl, hK _ _ (lay_in w [.inr dE, .inr eE] [.inl (.cells (notC ⟨#[120]⟩) 78 (0, 0)), .inr d1, .inl (.cells #[.slice none 0 0, .int .i64 0, .int .i64 0] 70 (0, 0)), .inl (.cells #[.slice none 0 0, .int .i64 0, .int .i64 (-1)] 70 (0, 0))]) ?_⟩
  clear hK K
  refine wpMB_two ?_ ?_
  ·skip
   refine spB_of rfl (fun K hK eA => ?_)
   rw [lay_bw]
   go_simp
   refine (HA.out (.slice ua 20 uc) (lay w [.inr eA, .inr dE, .inr eE, .inl (.cells (notC ⟨#[120]⟩) 78 (0, 0)), .inr d1, .inl (.cells #[.slice none 0 0, .int .i64 0, .int .i64 0] 70 (0, 0)), .inl (.cells #[.slice none 0 0, .int .i64 0, .int .i64 (-1)] 70 (0, 0))]) (slG_on (A := [.inr eA]) HU.out.1) HU.out.2).mono ?_
   rintro e w' ⟨v2, dA, rfl, rfl, h2⟩
   obtain ⟨va2, vc2, rfl⟩ := h2.form
   rw [nxF_len] at h2 ⊢
   have H2 := Lib.hid h2
   clear h2
   rw [lay_bw]
   refine ⟨_, rfl, hK _ _ (lay_in w [.inr dA, .inr eA, .inr dE, .inr eE] [.inl (.cells (notC ⟨#[120]⟩) 78 (0, 0)), .inr d1, .inl (.cells #[.slice none 0 0, .int .i64 0, .int .i64 0] 70 (0, 0)), .inl (.cells #[.slice none 0 0, .int .i64 0, .int .i64 (-1)] 70 (0, 0))]) ?_⟩
   clear hK K
   repeat (refine wpMB_quiet rfl (fun K hK => ?_); go_simp; refine hK _ ?_; clear hK K)
   refine wpMB_one ?_
   refine spB_of rfl (fun K hK e7 => ?_)
   rw [lay_bw]
   go_simp
   refine hK _ _ (lay_in w [.inl (.cells #[.slice none 0 0, .int .i64 0, .int .i64 0] 70 (0, 0)), .inr e7, .inr dA, .inr eA, .inr dE, .inr eE] [.inl (.cells (notC ⟨#[120]⟩) 78 (0, 0)), .inr d1, .inl (.cells #[.slice none 0 0, .int .i64 0, .int .i64 0] 70 (0, 0)), .inl (.cells #[.slice none 0 0, .int .i64 0, .int .i64 (-1)] 70 (0, 0))]) ?_
   clear hK K
   refine wpMB_one ?_
   refine spB_of rfl (fun K hK e8 => ?_)
   rw [lay_bw]
   go_simp
   refine hK _ _ (lay_in w [.inr e8, .inl (.cells #[.slice va2 28 vc2, .int .i64 0, .int .i64 (-1)] 70 (0, 0)), .inr e7, .inr dA, .inr eA, .inr dE, .inr eE] [.inl (.cells (notC ⟨#[120]⟩) 78 (0, 0)), .inr d1, .inl (.cells #[.slice none 0 0, .int .i64 0, .int .i64 0] 70 (0, 0)), .inl (.cells #[.slice none 0 0, .int .i64 0, .int .i64 (-1)] 70 (0, 0))]) ?_
   clear hK K
   refine wpMB_done (fun dz => ?_)
   show wpList _ _ _ _ _ _
   rw [lay_bw]
   go_wp2_with fail
   rw [rounds_succ]
   go_wp2_with fail
   have hv2 : SlG bR (lay w [.inr dz, .inr e8, .inl (.cells #[.slice va2 28 vc2, .int .i64 0, .int .i64 (-1)] 70 (0, 0)), .inr e7, .inr dA, .inr eA, .inr dE, .inr eE, .inl (.cells (notC ⟨#[120]⟩) 78 (0, 0)), .inr d1, .inl (.cells #[.slice none 0 0, .int .i64 0, .int .i64 0] 70 (0, 0)), .inl (.cells #[.slice va2 28 vc2, .int .i64 0, .int .i64 (-1)] 70 (0, 0))]) (.slice va2 28 vc2) nxF := slG_on (A := [.inr dz, .inr e8, .inl (.cells #[.slice va2 28 vc2, .int .i64 0, .int .i64 (-1)] 70 (0, 0)), .inr e7]) ((owG_swap (W2 := lay w [.inr eA, .inr dE, .inr eE, .inl (.cells (notC ⟨#[120]⟩) 78 (0, 0)), .inr d1, .inl (.cells #[.slice none 0 0, .int .i64 0, .int .i64 0] 70 (0, 0)), .inl (.cells #[.slice va2 28 vc2, .int .i64 0, .int .i64 (-1)] 70 (0, 0))]) H2.out (Nat.le_refl _) (size_shp rfl)).sl bOk)
   have ho2 : Old (lay w [.inr dz, .inr e8, .inl (.cells #[.slice va2 28 vc2, .int .i64 0, .int .i64 (-1)] 70 (0, 0)), .inr e7, .inr dA, .inr eA, .inr dE, .inr eE, .inl (.cells (notC ⟨#[120]⟩) 78 (0, 0)), .inr d1, .inl (.cells #[.slice none 0 0, .int .i64 0, .int .i64 0] 70 (0, 0)), .inl (.cells #[.slice va2 28 vc2, .int .i64 0, .int .i64 (-1)] 70 (0, 0))]) (.slice va2 28 vc2) := fun k hk => Nat.lt_of_lt_of_le ((owG_swap (W2 := lay w [.inr eA, .inr dE, .inr eE, .inl (.cells (notC ⟨#[120]⟩) 78 (0, 0)), .inr d1, .inl (.cells #[.slice none 0 0, .int .i64 0, .int .i64 0] 70 (0, 0)), .inl (.cells #[.slice va2 28 vc2, .int .i64 0, .int .i64 (-1)] 70 (0, 0))]) H2.out (Nat.le_refl _) (size_shp rfl)).1.lt k hk).2 (lay_belowG (A := [.inr dz, .inr e8, .inl (.cells #[.slice va2 28 vc2, .int .i64 0, .int .i64 (-1)] 70 (0, 0)), .inr e7]) (B := .inr dA :: [.inr eA, .inr dE, .inr eE, .inl (.cells (notC ⟨#[120]⟩) 78 (0, 0)), .inr d1, .inl (.cells #[.slice none 0 0, .int .i64 0, .int .i64 0] 70 (0, 0)), .inl (.cells #[.slice va2 28 vc2, .int .i64 0, .int .i64 (-1)] 70 (0, 0))])).size
   refine (jn_Sync_ok (.slice va2 28 vc2) nxF 0 (-1) (lay w [.inr dz, .inr e8, .inl (.cells #[.slice va2 28 vc2, .int .i64 0, .int .i64 (-1)] 70 (0, 0)), .inr e7, .inr dA, .inr eA, .inr dE, .inr eE, .inl (.cells (notC ⟨#[120]⟩) 78 (0, 0)), .inr d1, .inl (.cells #[.slice none 0 0, .int .i64 0, .int .i64 0] 70 (0, 0)), .inl (.cells #[.slice va2 28 vc2, .int .i64 0, .int .i64 (-1)] 70 (0, 0))]) hv2 ho2 nxF_dsk (by decide) nxF_wh).mono ?_
   rintro e w' ⟨v3, d3, rfl, rfl, h3⟩
   obtain ⟨va3, vc3, rfl⟩ := h3.form
   rw [nxF_len] at h3 ⊢
   have H3 := Lib.hid h3
   clear h3 hv2 ho2
   rw [lay_bw, show ((28 : Nat) : Int) = 28 from rfl]
   go_wp2_with fail
   have hz := (lay_ex w [.inr d3, .inr dz, .inr e8, .inl (.cells #[.slice va2 28 vc2, .int .i64 0, .int .i64 (-1)] 70 (0, 0)), .inr e7, .inr dA, .inr eA, .inr dE, .inr eE, .inl (.cells (notC ⟨#[120]⟩) 78 (0, 0)), .inr d1, .inl (.cells #[.slice va3 28 vc3, .int .i64 28, .int .i64 (-1)] 70 (0, 0)), .inl (.cells #[.slice va2 28 vc2, .int .i64 0, .int .i64 (-1)] 70 (0, 0))]).choose_spec
   exact bodyPost_ret (v := .tuple #[.agg #[.slice va3 28 vc3, .int .i64 28, .int .i64 (-1)], .int .i64 0]) (by simp [results, Tryz.results18, go_sem]) rfl ⟨_, _, rfl, hz, by rw [← hz]; exact (owG_swap (W2 := lay w [.inr dz, .inr e8, .inl (.cells #[.slice va2 28 vc2, .int .i64 0, .int .i64 (-1)] 70 (0, 0)), .inr e7, .inr dA, .inr eA, .inr dE, .inr eE, .inl (.cells (notC ⟨#[120]⟩) 78 (0, 0)), .inr d1, .inl (.cells #[.slice va3 28 vc3, .int .i64 28, .int .i64 (-1)] 70 (0, 0)), .inl (.cells #[.slice va2 28 vc2, .int .i64 0, .int .i64 (-1)] 70 (0, 0))]) H3.out (Nat.le_refl _) (size_shp rfl)).le (lay_extends w _).size⟩
  ·skip
   refine spB_of rfl (fun K hK e7 => ?_)
   rw [lay_bw]
   go_simp
   refine hK _ _ (lay_in w [.inl (.cells #[.slice none 0 0, .int .i64 0, .int .i64 0] 70 (0, 0)), .inr e7, .inr dE, .inr eE] [.inl (.cells (notC ⟨#[120]⟩) 78 (0, 0)), .inr d1, .inl (.cells #[.slice none 0 0, .int .i64 0, .int .i64 0] 70 (0, 0)), .inl (.cells #[.slice none 0 0, .int .i64 0, .int .i64 (-1)] 70 (0, 0))]) ?_
   clear hK K
   refine wpMB_one ?_
   refine spB_of rfl (fun K hK eA => ?_)
   rw [lay_bw]
   go_simp
   refine (HA.out (.slice ua 20 uc) (lay w [.inr eA, .inl (.cells #[.slice none 0 0, .int .i64 0, .int .i64 0] 70 (0, 0)), .inr e7, .inr dE, .inr eE, .inl (.cells (notC ⟨#[120]⟩) 78 (0, 0)), .inr d1, .inl (.cells #[.slice none 0 0, .int .i64 0, .int .i64 0] 70 (0, 0)), .inl (.cells #[.slice none 0 0, .int .i64 0, .int .i64 (-1)] 70 (0, 0))]) (slG_on (A := [.inr eA, .inl (.cells #[.slice none 0 0, .int .i64 0, .int .i64 0] 70 (0, 0)), .inr e7]) HU.out.1) HU.out.2).mono ?_
   rintro e w' ⟨v2, dA, rfl, rfl, h2⟩
   obtain ⟨va2, vc2, rfl⟩ := h2.form
   rw [nxF_len] at h2 ⊢
   have H2 := Lib.hid h2
   clear h2
   rw [lay_bw]
   refine ⟨_, rfl, hK _ _ (lay_in w [.inr dA, .inr eA, .inl (.cells #[.slice none 0 0, .int .i64 0, .int .i64 0] 70 (0, 0)), .inr e7, .inr dE, .inr eE] [.inl (.cells (notC ⟨#[120]⟩) 78 (0, 0)), .inr d1, .inl (.cells #[.slice none 0 0, .int .i64 0, .int .i64 0] 70 (0, 0)), .inl (.cells #[.slice none 0 0, .int .i64 0, .int .i64 (-1)] 70 (0, 0))]) ?_⟩
   clear hK K
   repeat (refine wpMB_quiet rfl (fun K hK => ?_); go_simp; refine hK _ ?_; clear hK K)
   refine wpMB_one ?_
   refine spB_of rfl (fun K hK e8 => ?_)
   rw [lay_bw]
   go_simp
   refine hK _ _ (lay_in w [.inr e8, .inr dA, .inr eA, .inl (.cells #[.slice va2 28 vc2, .int .i64 0, .int .i64 (-1)] 70 (0, 0)), .inr e7, .inr dE, .inr eE] [.inl (.cells (notC ⟨#[120]⟩) 78 (0, 0)), .inr d1, .inl (.cells #[.slice none 0 0, .int .i64 0, .int .i64 0] 70 (0, 0)), .inl (.cells #[.slice none 0 0, .int .i64 0, .int .i64 (-1)] 70 (0, 0))]) ?_
   clear hK K
   refine wpMB_done (fun dz => ?_)
   show wpList _ _ _ _ _ _
   rw [lay_bw]
   go_wp2_with fail
   rw [rounds_succ]
   go_wp2_with fail
   have hv2 : SlG bR (lay w [.inr dz, .inr e8, .inr dA, .inr eA, .inl (.cells #[.slice va2 28 vc2, .int .i64 0, .int .i64 (-1)] 70 (0, 0)), .inr e7, .inr dE, .inr eE, .inl (.cells (notC ⟨#[120]⟩) 78 (0, 0)), .inr d1, .inl (.cells #[.slice none 0 0, .int .i64 0, .int .i64 0] 70 (0, 0)), .inl (.cells #[.slice va2 28 vc2, .int .i64 0, .int .i64 (-1)] 70 (0, 0))]) (.slice va2 28 vc2) nxF := slG_on (A := [.inr dz, .inr e8]) ((owG_swap (W2 := lay w [.inr eA, .inl (.cells #[.slice va2 28 vc2, .int .i64 0, .int .i64 (-1)] 70 (0, 0)), .inr e7, .inr dE, .inr eE, .inl (.cells (notC ⟨#[120]⟩) 78 (0, 0)), .inr d1, .inl (.cells #[.slice none 0 0, .int .i64 0, .int .i64 0] 70 (0, 0)), .inl (.cells #[.slice va2 28 vc2, .int .i64 0, .int .i64 (-1)] 70 (0, 0))]) H2.out (Nat.le_refl _) (size_shp rfl)).sl bOk)
   have ho2 : Old (lay w [.inr dz, .inr e8, .inr dA, .inr eA, .inl (.cells #[.slice va2 28 vc2, .int .i64 0, .int .i64 (-1)] 70 (0, 0)), .inr e7, .inr dE, .inr eE, .inl (.cells (notC ⟨#[120]⟩) 78 (0, 0)), .inr d1, .inl (.cells #[.slice none 0 0, .int .i64 0, .int .i64 0] 70 (0, 0)), .inl (.cells #[.slice va2 28 vc2, .int .i64 0, .int .i64 (-1)] 70 (0, 0))]) (.slice va2 28 vc2) := fun k hk => Nat.lt_of_lt_of_le ((owG_swap (W2 := lay w [.inr eA, .inl (.cells #[.slice va2 28 vc2, .int .i64 0, .int .i64 (-1)] 70 (0, 0)), .inr e7, .inr dE, .inr eE, .inl (.cells (notC ⟨#[120]⟩) 78 (0, 0)), .inr d1, .inl (.cells #[.slice none 0 0, .int .i64 0, .int .i64 0] 70 (0, 0)), .inl (.cells #[.slice va2 28 vc2, .int .i64 0, .int .i64 (-1)] 70 (0, 0))]) H2.out (Nat.le_refl _) (size_shp rfl)).1.lt k hk).2 (lay_belowG (A := [.inr dz, .inr e8]) (B := .inr dA :: [.inr eA, .inl (.cells #[.slice va2 28 vc2, .int .i64 0, .int .i64 (-1)] 70 (0, 0)), .inr e7, .inr dE, .inr eE, .inl (.cells (notC ⟨#[120]⟩) 78 (0, 0)), .inr d1, .inl (.cells #[.slice none 0 0, .int .i64 0, .int .i64 0] 70 (0, 0)), .inl (.cells #[.slice va2 28 vc2, .int .i64 0, .int .i64 (-1)] 70 (0, 0))])).size
   refine (jn_Sync_ok (.slice va2 28 vc2) nxF 0 (-1) (lay w [.inr dz, .inr e8, .inr dA, .inr eA, .inl (.cells #[.slice va2 28 vc2, .int .i64 0, .int .i64 (-1)] 70 (0, 0)), .inr e7, .inr dE, .inr eE, .inl (.cells (notC ⟨#[120]⟩) 78 (0, 0)), .inr d1, .inl (.cells #[.slice none 0 0, .int .i64 0, .int .i64 0] 70 (0, 0)), .inl (.cells #[.slice va2 28 vc2, .int .i64 0, .int .i64 (-1)] 70 (0, 0))]) hv2 ho2 nxF_dsk (by decide) nxF_wh).mono ?_
   rintro e w' ⟨v3, d3, rfl, rfl, h3⟩
   obtain ⟨va3, vc3, rfl⟩ := h3.form
   rw [nxF_len] at h3 ⊢
   have H3 := Lib.hid h3
   clear h3 hv2 ho2
   rw [lay_bw, show ((28 : Nat) : Int) = 28 from rfl]
   go_wp2_with fail
   have hz := (lay_ex w [.inr d3, .inr dz, .inr e8, .inr dA, .inr eA, .inl (.cells #[.slice va2 28 vc2, .int .i64 0, .int .i64 (-1)] 70 (0, 0)), .inr e7, .inr dE, .inr eE, .inl (.cells (notC ⟨#[120]⟩) 78 (0, 0)), .inr d1, .inl (.cells #[.slice va3 28 vc3, .int .i64 28, .int .i64 (-1)] 70 (0, 0)), .inl (.cells #[.slice va2 28 vc2, .int .i64 0, .int .i64 (-1)] 70 (0, 0))]).choose_spec
   exact bodyPost_ret (v := .tuple #[.agg #[.slice va3 28 vc3, .int .i64 28, .int .i64 (-1)], .int .i64 0]) (by simp [results, Tryz.results18, go_sem]) rfl ⟨_, _, rfl, hz, by rw [← hz]; exact (owG_swap (W2 := lay w [.inr dz, .inr e8, .inr dA, .inr eA, .inl (.cells #[.slice va2 28 vc2, .int .i64 0, .int .i64 (-1)] 70 (0, 0)), .inr e7, .inr dE, .inr eE, .inl (.cells (notC ⟨#[120]⟩) 78 (0, 0)), .inr d1, .inl (.cells #[.slice va3 28 vc3, .int .i64 28, .int .i64 (-1)] 70 (0, 0)), .inl (.cells #[.slice va2 28 vc2, .int .i64 0, .int .i64 (-1)] 70 (0, 0))]) H3.out (Nat.le_refl _) (size_shp rfl)).le (lay_extends w _).size⟩
 ·skip
  refine spB_of rfl (fun K hK e7 => ?_)
  rw [lay_bw]
  go_simp
  refine hK _ _ (lay_in w [.inl (.cells #[.slice none 0 0, .int .i64 0, .int .i64 0] 70 (0, 0)), .inr e7] [.inl (.cells (notC ⟨#[120]⟩) 78 (0, 0)), .inr d1, .inl (.cells #[.slice none 0 0, .int .i64 0, .int .i64 0] 70 (0, 0)), .inl (.cells #[.slice none 0 0, .int .i64 0, .int .i64 (-1)] 70 (0, 0))]) ?_
  clear hK K
  refine wpMB_one ?_
  refine spB_of rfl (fun K hK eE => ?_)
  rw [lay_bw]
  go_simp
  refine (HE.out _).mono ?_
  rintro e w' ⟨u, dE, rfl, rfl, hu⟩
  rw [lay_bw] at hu ⊢
  obtain ⟨ua, uc, rfl⟩ := hu.form
  rw [show nxB.length = 20 from rfl] at hu ⊢
  have HU : Hid (SlG bR (lay w [.inr dE, .inr eE, .inl (.cells #[.slice none 0 0, .int .i64 0, .int .i64 0] 70 (0, 0)), .inr e7, .inl (.cells (notC ⟨#[120]⟩) 78 (0, 0)), .inr d1, .inl (.cells #[.slice none 0 0, .int .i64 0, .int .i64 0] 70 (0, 0)), .inl (.cells #[.slice none 0 0, .int .i64 0, .int .i64 (-1)] 70 (0, 0))]) (.slice ua 20 uc) nxB ∧ NilC (.slice ua 20 uc)) := Lib.hid ⟨hu.sl bOk, hu.nilc⟩
  clear hu
  refine ⟨_, rfl, hK _ _ (lay_in w [.inr dE, .inr eE, .inl (.cells #[.slice none 0 0, .int .i64 0, .int .i64 0] 70 (0, 0)), .inr e7] [.inl (.cells (notC ⟨#[120]⟩) 78 (0, 0)), .inr d1, .inl (.cells #[.slice none 0 0, .int .i64 0, .int .i64 0] 70 (0, 0)), .inl (.cells #[.slice none 0 0, .int .i64 0, .int .i64 (-1)] 70 (0, 0))]) ?_⟩
  clear hK K
  refine wpMB_one ?_
  refine spB_of rfl (fun K hK eA => ?_)
  rw [lay_bw]
  go_simp
  refine (HA.out (.slice ua 20 uc) (lay w [.inr eA, .inr dE, .inr eE, .inl (.cells #[.slice none 0 0, .int .i64 0, .int .i64 0] 70 (0, 0)), .inr e7, .inl (.cells (notC ⟨#[120]⟩) 78 (0, 0)), .inr d1, .inl (.cells #[.slice none 0 0, .int .i64 0, .int .i64 0] 70 (0, 0)), .inl (.cells #[.slice none 0 0, .int .i64 0, .int .i64 (-1)] 70 (0, 0))]) (slG_on (A := [.inr eA]) HU.out.1) HU.out.2).mono ?_
  rintro e w' ⟨v2, dA, rfl, rfl, h2⟩
  obtain ⟨va2, vc2, rfl⟩ := h2.form
  rw [nxF_len] at h2 ⊢
  have H2 := Lib.hid h2
  clear h2
  rw [lay_bw]
  refine ⟨_, rfl, hK _ _ (lay_in w [.inr dA, .inr eA, .inr dE, .inr eE, .inl (.cells #[.slice none 0 0, .int .i64 0, .int .i64 0] 70 (0, 0)), .inr e7] [.inl (.cells (notC ⟨#[120]⟩) 78 (0, 0)), .inr d1, .inl (.cells #[.slice none 0 0, .int .i64 0, .int .i64 0] 70 (0, 0)), .inl (.cells #[.slice none 0 0, .int .i64 0, .int .i64 (-1)] 70 (0, 0))]) ?_⟩
  clear hK K
  repeat (refine wpMB_quiet rfl (fun K hK => ?_); go_simp; refine hK _ ?_; clear hK K)
  refine wpMB_one ?_
  refine spB_of rfl (fun K hK e8 => ?_)
  rw [lay_bw]
  go_simp
  refine hK _ _ (lay_in w [.inr e8, .inr dA, .inr eA, .inr dE, .inr eE, .inl (.cells #[.slice va2 28 vc2, .int .i64 0, .int .i64 (-1)] 70 (0, 0)), .inr e7] [.inl (.cells (notC ⟨#[120]⟩) 78 (0, 0)), .inr d1, .inl (.cells #[.slice none 0 0, .int .i64 0, .int .i64 0] 70 (0, 0)), .inl (.cells #[.slice none 0 0, .int .i64 0, .int .i64 (-1)] 70 (0, 0))]) ?_
  clear hK K
  refine wpMB_done (fun dz => ?_)
  show wpList _ _ _ _ _ _
  rw [lay_bw]
  go_wp2_with fail
  rw [rounds_succ]
  go_wp2_with fail
  have hv2 : SlG bR (lay w [.inr dz, .inr e8, .inr dA, .inr eA, .inr dE, .inr eE, .inl (.cells #[.slice va2 28 vc2, .int .i64 0, .int .i64 (-1)] 70 (0, 0)), .inr e7, .inl (.cells (notC ⟨#[120]⟩) 78 (0, 0)), .inr d1, .inl (.cells #[.slice none 0 0, .int .i64 0, .int .i64 0] 70 (0, 0)), .inl (.cells #[.slice va2 28 vc2, .int .i64 0, .int .i64 (-1)] 70 (0, 0))]) (.slice va2 28 vc2) nxF := slG_on (A := [.inr dz, .inr e8]) ((owG_swap (W2 := lay w [.inr eA, .inr dE, .inr eE, .inl (.cells #[.slice va2 28 vc2, .int .i64 0, .int .i64 (-1)] 70 (0, 0)), .inr e7, .inl (.cells (notC ⟨#[120]⟩) 78 (0, 0)), .inr d1, .inl (.cells #[.slice none 0 0, .int .i64 0, .int .i64 0] 70 (0, 0)), .inl (.cells #[.slice va2 28 vc2, .int .i64 0, .int .i64 (-1)] 70 (0, 0))]) H2.out (Nat.le_refl _) (size_shp rfl)).sl bOk)
  have ho2 : Old (lay w [.inr dz, .inr e8, .inr dA, .inr eA, .inr dE, .inr eE, .inl (.cells #[.slice va2 28 vc2, .int .i64 0, .int .i64 (-1)] 70 (0, 0)), .inr e7, .inl (.cells (notC ⟨#[120]⟩) 78 (0, 0)), .inr d1, .inl (.cells #[.slice none 0 0, .int .i64 0, .int .i64 0] 70 (0, 0)), .inl (.cells #[.slice va2 28 vc2, .int .i64 0, .int .i64 (-1)] 70 (0, 0))]) (.slice va2 28 vc2) := fun k hk => Nat.lt_of_lt_of_le ((owG_swap (W2 := lay w [.inr eA, .inr dE, .inr eE, .inl (.cells #[.slice va2 28 vc2, .int .i64 0, .int .i64 (-1)] 70 (0, 0)), .inr e7, .inl (.cells (notC ⟨#[120]⟩) 78 (0, 0)), .inr d1, .inl (.cells #[.slice none 0 0, .int .i64 0, .int .i64 0] 70 (0, 0)), .inl (.cells #[.slice va2 28 vc2, .int .i64 0, .int .i64 (-1)] 70 (0, 0))]) H2.out (Nat.le_refl _) (size_shp rfl)).1.lt k hk).2 (lay_belowG (A := [.inr dz, .inr e8]) (B := .inr dA :: [.inr eA, .inr dE, .inr eE, .inl (.cells #[.slice va2 28 vc2, .int .i64 0, .int .i64 (-1)] 70 (0, 0)), .inr e7, .inl (.cells (notC ⟨#[120]⟩) 78 (0, 0)), .inr d1, .inl (.cells #[.slice none 0 0, .int .i64 0, .int .i64 0] 70 (0, 0)), .inl (.cells #[.slice va2 28 vc2, .int .i64 0, .int .i64 (-1)] 70 (0, 0))])).size
  refine (jn_Sync_ok (.slice va2 28 vc2) nxF 0 (-1) (lay w [.inr dz, .inr e8, .inr dA, .inr eA, .inr dE, .inr eE, .inl (.cells #[.slice va2 28 vc2, .int .i64 0, .int .i64 (-1)] 70 (0, 0)), .inr e7, .inl (.cells (notC ⟨#[120]⟩) 78 (0, 0)), .inr d1, .inl (.cells #[.slice none 0 0, .int .i64 0, .int .i64 0] 70 (0, 0)), .inl (.cells #[.slice va2 28 vc2, .int .i64 0, .int .i64 (-1)] 70 (0, 0))]) hv2 ho2 nxF_dsk (by decide) nxF_wh).mono ?_
  rintro e w' ⟨v3, d3, rfl, rfl, h3⟩
  obtain ⟨va3, vc3, rfl⟩ := h3.form
  rw [nxF_len] at h3 ⊢
  have H3 := Lib.hid h3
  clear h3 hv2 ho2
  rw [lay_bw, show ((28 : Nat) : Int) = 28 from rfl]
  go_wp2_with fail
  have hz := (lay_ex w [.inr d3, .inr dz, .inr e8, .inr dA, .inr eA, .inr dE, .inr eE, .inl (.cells #[.slice va2 28 vc2, .int .i64 0, .int .i64 (-1)] 70 (0, 0)), .inr e7, .inl (.cells (notC ⟨#[120]⟩) 78 (0, 0)), .inr d1, .inl (.cells #[.slice va3 28 vc3, .int .i64 28, .int .i64 (-1)] 70 (0, 0)), .inl (.cells #[.slice va2 28 vc2, .int .i64 0, .int .i64 (-1)] 70 (0, 0))]).choose_spec
  exact bodyPost_ret (v := .tuple #[.agg #[.slice va3 28 vc3, .int .i64 28, .int .i64 (-1)], .int .i64 0]) (by simp [results, Tryz.results18, go_sem]) rfl ⟨_, _, rfl, hz, by rw [← hz]; exact (owG_swap (W2 := lay w [.inr dz, .inr e8, .inr dA, .inr eA, .inr dE, .inr eE, .inl (.cells #[.slice va2 28 vc2, .int .i64 0, .int .i64 (-1)] 70 (0, 0)), .inr e7, .inl (.cells (notC ⟨#[120]⟩) 78 (0, 0)), .inr d1, .inl (.cells #[.slice va3 28 vc3, .int .i64 28, .int .i64 (-1)] 70 (0, 0)), .inl (.cells #[.slice va2 28 vc2, .int .i64 0, .int .i64 (-1)] 70 (0, 0))]) H3.out (Nat.le_refl _) (size_shp rfl)).le (lay_extends w _).size⟩
theorem logP_set {w1 W : World} {g b : Nat} {v0 v : Value} {l0 l : List RcC} {d : Ext} (h : LogP w1 g b v0 l0) (hW : W = bw (w1.setCell ⟨g, 3, none⟩ v) d) (hr : SlG rR W v l) : LogP W g b v l := by
 refine ⟨?_, hr⟩
 have hlt : g < (w1.setCell ⟨g, 3, none⟩ v).heap.size := by rw [World.size_setCell]; exact h.lt
 rw [hW, bw_get _ d g hlt]
 unfold World.setCell
 simp [Array.getElem?_modify, h.blk]
theorem LogP.lay {W : World} {g b : Nat} {v : Value} {l : List RcC} (h : LogP W g b v l) (L : List (Obj ⊕ Ext)) : LogP (lay W L) g b v l := by
 obtain ⟨d, hd⟩ := lay_ex W L
 rw [hd]
 exact h.bw d
set_option maxHeartbeats 4000000 in
set_option maxRecDepth 100000 in
theorem lg_Load_x (b : Nat) (u : Value) (w : World) (hu : SlG bR w u nxF) (ho : Old w u) :
  Calls Tryz.prog 19 #[.pointer (some ⟨b, 0, none⟩), .agg #[.int .i64 0, .slice none 0 0], .agg #[u, .int .i64 28, .int .i64 (-1)]] w fun e w' => ∃ g v, e = .returned (.tuple #[.pointer (some ⟨g, 0, none⟩), .int .i64 0]) ∧ w.heap.size ≤ g ∧ LogP w' g b v [notX] ∧ ∃ d, w' = bw w d := by
 have HN := Lib.hid (fun W => lg_New0 b W)
 have HR : Hid (∀ W, Below w.heap.size w W → Calls Tryz.prog 72 #[.agg #[u, .int .i64 28, .int .i64 (-1)]] W (RecsP W [nxB])) := Lib.hid (fun W hW => by
  have := jn_Records_ok u nxF 28 (-1) W (hu.ext hW) (fun k hk => Nat.lt_of_lt_of_le (ho k hk) hW.size) nxF_dsk2
  rwa [nxF_rec] at this)
 obtain ⟨ua, uc, rfl⟩ := hu.form
 clear hu ho
 rw [nxF_len] at HR ⊢
 refine lay_start ?_
 go_enter Tryz.func19, Tryz.ntmps19
 go_wp2_with fail
 refine (HN.out _).mono ?_
 rintro e w1 ⟨g, rfl, hg, hblk, d0, hw1⟩
 rw [lay_bw] at hw1
 have gd : w1.heap[posn w [1]]? = some (.cells #[.slice ua 28 uc, .int .i64 28, .int .i64 (-1)] 70 (0, 0)) := by rw [hw1]; exact lay_get w _ 1 _ rfl
 have k0 : w1.cell? ⟨posn w [1], 0, none⟩ = some (.slice ua 28 uc) := by unfold World.cell?; dsimp only; rw [gd]; rfl
 have k1 : w1.cell? ⟨posn w [1], 1, none⟩ = some (.int .i64 28) := by unfold World.cell?; dsimp only; rw [gd]; rfl
 have k2 : w1.cell? ⟨posn w [1], 2, none⟩ = some (.int .i64 (-1)) := by unfold World.cell?; dsimp only; rw [gd]; rfl
 have hPl := cell_lt k0
 have HB : Hid (Below w.heap.size w w1) := Lib.hid (by rw [hw1]; exact lay_extends w _)
 have HW : Hid (w.heap.size ≤ g ∧ LogP w1 g b (.slice none 0 0) []) := Lib.hid ⟨Nat.le_trans (lay_extends w [.inl (.cells #[.slice ua 28 uc, .int .i64 28, .int .i64 (-1)] 70 (0, 0)), .inl (.cells #[.int .i64 0, .slice none 0 0] 24 (0, 0))]).size hg, ⟨hblk, SlG.nil _ _⟩⟩
 clear hg hblk hw1 gd HN
 generalize posn w [1] = P at *
 generalize posn w [] = P0 at *
 rw [show w1 = lay w1 [] from rfl]
 go_wp2_with fail
 refine (HR.out _ HB.out).mono ?_
 rintro e w' ⟨v1, d1, xs, rfl, rfl, hBs⟩
 obtain ⟨x, rfl⟩ := List.length_eq_one_iff.1 hBs.len
 obtain ⟨rb, rc, rfl, -, hrb, hrc, -⟩ := hBs.row.form1 (by simp)
 have hcx := hBs.row.cell sOk (i := 0) (j := 0) (x := x) rfl rfl
 have hx := (hBs.at_ 0 x nxB rfl rfl).1
 have hw2 : ∃ w2, w2 = bw w1 d1 := ⟨_, rfl⟩
 obtain ⟨w2, hw2⟩ := hw2
 have HG : Hid (LogP w2 g b (.slice none 0 0) []) := Lib.hid (by rw [hw2]; exact HW.out.2.bw d1)
 have HB2 : Hid (Below w.heap.size w w2) := Lib.hid (by rw [hw2]; exact below_bw HB.out HB.out.size)
 obtain ⟨x1, x2, x3⟩ := x
 rw [← hw2] at hcx hx hrb ⊢
 rw [show 0 * sR.k + 0 = 0 from rfl] at hcx
 rw [show [(x1, x2, x3)].length = 1 from rfl] at hrc ⊢
 obtain ⟨xa, xc, hxe⟩ := hx.form
 have HD := Lib.hid (fun L => lg_Decode_x _ (lay w2 L) (hx.lay L))
 have HGg := Lib.hid (fun L => lg_Add_x g b (lay w2 L) (HG.out.lay L))
 unfold notV notC at HD HGg
 clear hBs hx hw2 k0 k1 k2 hPl hxe HR HB
 rw [show w2 = lay w2 [] from rfl]
 go_wp2_with fail
 refine wp_loop_rounds 2 ?_
 rw [rounds_succ]
 go_wp2_with fail
 refine (HD.out _).mono ?_
 rintro e w' ⟨rfl, d2, rfl⟩
 rw [lay_bw]
 go_wp2_with fail
 refine (HGg.out _).mono ?_
 rintro e w' ⟨rfl, v, d3, rfl, hv⟩
 obtain ⟨w3, hw3⟩ : ∃ w3, w3 = bw ((lay w2 [.inl (.cells (notC ⟨#[120]⟩) 78 (0, 0)), .inr d2]).setCell ⟨g, 3, none⟩ v) d3 := ⟨_, rfl⟩
 have hv2 : OwG rR w3 (lay w2 [.inl (.cells (notC ⟨#[120]⟩) 78 (0, 0)), .inr d2]).heap.size v [notX] := by rw [hw3]; exact hv
 obtain ⟨dd, hdd⟩ := bw_of (below_lay HB2.out [.inl (.cells (notC ⟨#[120]⟩) 78 (0, 0)), .inr d2])
 obtain ⟨de, hde⟩ := bw_set (W0 := w) (d := dd) (b := g) (i := 3) (v := v) HW.out.1
 have HF : Hid (LogP w3 g b v [notX] ∧ ∃ d, w3 = bw w d) := Lib.hid ⟨logP_set (HG.out.lay [.inl (.cells (notC ⟨#[120]⟩) 78 (0, 0)), .inr d2]) hw3 (hv2.sl rOk), _, by rw [hw3, hdd, hde]; exact bw_bw _ _ _⟩
 unfold notC at hw3
 rw [← hw3]
 clear hv hv2 hdd hde hw3 HD HGg hcx hrb hrc
 rw [show w3 = lay w3 [] from rfl]
 go_wp2_with fail
 rw [rounds_succ]
 go_wp2_with fail
 exact bodyPost_ret (v := .tuple #[.pointer (some ⟨g, 0, none⟩), .int .i64 0]) (by simp [results, Tryz.results19, go_sem]) rfl ⟨g, v, rfl, HW.out.1, HF.out.1, HF.out.2⟩
end Go.Proofs.YtcbicpbbjbkiaaaGreatDoor
namespace Go.Proofs.YtcbicpbbjbkiaaaGreatDoor
open Go.RowKit Go.Shelf

def BdI (B b : Nat) (l : List UInt8) (W : World) : Prop := Lib.IsBuilder 163 5 B b (Lib.byteCells l) W
theorem BdI.ext {B b : Nat} {l : List UInt8} {W W' : World} (h : BdI B b l W) (hb : Below W.heap.size W W') : BdI B b l W' := by
 have key : ∀ p, Lib.BuilderAt 163 5 B b p (Lib.byteCells l) W → Lib.BuilderAt 163 5 B b p (Lib.byteCells l) W' := by
  rintro p ⟨h0, v, h1, h2, h3⟩
  refine ⟨h0, v, (hb.block b (Array.getElem?_eq_some_iff.1 h1).1).trans h1, ⟨h2.1, h2.2.imp id ?_⟩, h3⟩
  rintro ⟨g, cap, cur, e, k1, k2, k3⟩
  exact ⟨g, cap, cur, e, k1, (hb.block g (Array.getElem?_eq_some_iff.1 k2).1).trans k2, k3⟩
 rcases h with h | h
 ·exact .inl (key _ h)
 ·exact .inr (key _ h)
theorem BdI.lay {B b : Nat} {l : List UInt8} {W : World} (h : BdI B b l W) (L : List (Obj ⊕ Ext)) : BdI B b l (lay W L) := h.ext (lay_extends W L)
theorem BdI.on {B b : Nat} {l : List UInt8} {w : World} {L : List (Obj ⊕ Ext)} (h : BdI B b l (Go.Proofs.YtcbicpbbjbkiaaaGreatDoor.lay w L)) (A : List (Obj ⊕ Ext)) : BdI B b l (Go.Proofs.YtcbicpbbjbkiaaaGreatDoor.lay w (A ++ L)) := by
 rw [lay_appG]
 exact h.lay A
theorem bdi_new (w : World) : BdI w.heap.size (posn w []) [] (lay w [.inl (.cells #[.pointer none, .slice none 0 0] 163 (0, 0))]) := Lib.fresh_isBuilder 163 5 w
theorem cells_app (a b : List UInt8) : Lib.byteCells a ++ Lib.byteCells b = Lib.byteCells (a ++ b) := by unfold Lib.byteCells; rw [List.map_append]
theorem bdi_WS (w : World) (b : Nat) (l : List UInt8) (s : ByteArray) (L : List (Obj ⊕ Ext)) (h : BdI w.heap.size b l (lay w L)) (hl : l.length + s.size ≤ 1000000) :
  Calls Tryz.prog 79 #[.pointer (some ⟨b, 0, none⟩), .string s] (lay w L) fun e w' => e = .returned (.tuple #[.int .i64 s.size, .nilIface]) ∧ ∃ d, w' = bw w d ∧ BdI w.heap.size b (l ++ s.data.toList) (bw w d) := by
 have hw := lay_extends w L
 refine (bd_WriteString w.heap.size b (Lib.byteCells l) s (lay w L) h (by rw [Lib.byteCells_length]; omega) hw.size).mono ?_
 rintro e w' ⟨rfl, hB, hb⟩
 obtain ⟨d, rfl⟩ := bw_of (hw.trans hb)
 refine ⟨rfl, d, rfl, .inr ?_⟩
 rw [show Lib.strCells s = Lib.byteCells s.data.toList from rfl, cells_app] at hB
 exact hB
theorem bdi_WB (w : World) (b : Nat) (l : List UInt8) (c : UInt8) (x : Int) (hx : x = (c.toNat : Int)) (L : List (Obj ⊕ Ext)) (h : BdI w.heap.size b l (lay w L)) (hl : l.length ≤ 1000000) :
  Calls Tryz.prog 115 #[.pointer (some ⟨b, 0, none⟩), .int .u8 x] (lay w L) fun e w' => e = .returned .nilIface ∧ ∃ d, w' = bw w d ∧ BdI w.heap.size b (l ++ [c]) (bw w d) := by
 have hw := lay_extends w L
 refine (bd_WriteByte w.heap.size b (Lib.byteCells l) x (lay w L) h (by rw [Lib.byteCells_length]; omega) hw.size).mono ?_
 rintro e w' ⟨rfl, hB, hb⟩
 obtain ⟨d, rfl⟩ := bw_of (hw.trans hb)
 refine ⟨rfl, d, rfl, .inr ?_⟩
 rw [hx, show [Value.int .u8 (c.toNat : Int)] = Lib.byteCells [c] from rfl, cells_app] at hB
 exact hB
theorem bdi_St (w : World) (b : Nat) (l : List UInt8) (L : List (Obj ⊕ Ext)) (h : BdI w.heap.size b l (lay w L)) :
  Calls Tryz.prog 83 #[.pointer (some ⟨b, 0, none⟩)] (lay w L) fun e w' => e = .returned (.string (strB l)) ∧ ∃ d, w' = bw w d := by
 have hw := lay_extends w L
 refine (Tryz.Builder_String_any w.heap.size b l (lay w L) h hw.size).mono ?_
 rintro e w' ⟨rfl, hb⟩
 exact ⟨rfl, bw_of (hw.trans hb)⟩
theorem abs_at {m : Nat} (h : m % 100 = 0) : absL m = (Lib.decDigits (m / 60000) ++ [45] ++ padL (m % 60000 / 1000) 2 ++ [46]) ++ Lib.decDigits (m % 1000 / 100) := by
 unfold absL
 rw [if_pos (by omega)]
 simp
theorem dec_len9 {n : Nat} (h : n < 100000000) : (Lib.decDigits n).length ≤ 8 := by
 by_cases h0 : n < 10
 ·rw [dec_small h0]; simp
 ·rw [dec_big h0, List.length_append, List.length_singleton]
  by_cases h1 : n / 10 < 10
  ·rw [dec_small h1]; simp
  ·rw [dec_big h1, List.length_append, List.length_singleton]
   by_cases h2 : n / 10 / 10 < 10
   ·rw [dec_small h2]; simp
   ·rw [dec_big h2, List.length_append, List.length_singleton]
    by_cases h3 : n / 10 / 10 / 10 < 10
    ·rw [dec_small h3]; simp
    ·rw [dec_big h3, List.length_append, List.length_singleton]
     by_cases h4 : n / 10 / 10 / 10 / 10 < 10
     ·rw [dec_small h4]; simp
     ·rw [dec_big h4, List.length_append, List.length_singleton]
      have := dec_len_le (n := n / 10 / 10 / 10 / 10 / 10) (by omega)
      omega
theorem pad2_le {n : Nat} (h : n < 100) : (padL n 2).length ≤ 2 := Nat.le_of_eq (pad2_len h)
theorem txt_parts {m : Nat} (h : m % 100 = 0) (hm : m ≤ 1099511627776) : ((m : Int).tdiv 60000 = ((m / 60000 : Nat) : Int) ∧ (m : Int).tmod 60000 = ((m % 60000 : Nat) : Int) ∧ ((m % 60000 : Nat) : Int).tdiv 1000 = ((m % 60000 / 1000 : Nat) : Int)) ∧ ((m : Int).tmod 1000 = ((m % 1000 : Nat) : Int) ∧ ((m % 1000 : Nat) : Int).tmod 100 = 0 ∧ ((m % 1000 : Nat) : Int).tdiv 100 = ((m % 1000 / 100 : Nat) : Int)) ∧ m / 60000 < 100000000 := by
 have e : ∀ a b : Nat, ((a : Int).tdiv (b : Int) = ((a / b : Nat) : Int)) ∧ ((a : Int).tmod (b : Int) = ((a % b : Nat) : Int)) := fun a b => ⟨by rw [Int.ofNat_tdiv], by rw [Int.ofNat_tmod]⟩
 refine ⟨⟨(e m 60000).1, (e m 60000).2, (e _ 1000).1⟩, ⟨(e m 1000).2, ?_, (e _ 100).1⟩, by omega⟩
 have := (e (m % 1000) 100).2
 rw [show m % 1000 % 100 = 0 by omega] at this
 exact this
end Go.Proofs.YtcbicpbbjbkiaaaGreatDoor
namespace Go.Proofs.YtcbicpbbjbkiaaaGreatDoor
set_option maxHeartbeats 2000000
open Go.RowKit

set_option maxRecDepth 100000 in
theorem lg_Records_x (g b : Nat) (v : Value) (w : World) (h : LogP w g b v [notX]) :
  Calls Tryz.prog 21 #[.pointer (some ⟨g, 0, none⟩)] w fun e w' => ∃ a c d, e = .returned (.slice a 1 c) ∧ w' = bw w d := by
 have HC := Lib.hid (fun W => lg_copied_x W)
 unfold notV notC at HC
 have hb := h.lt
 have hc3 := h.c3
 obtain ⟨rb, ro, rc, rfl, hrc, hrl, -⟩ := h.row.open (by decide)
 have hrow : ∀ L, (ldRec (.pointer (some ⟨rb, ro, none⟩))).run Tryz.prog (lay w L) = .ok (.agg (notC ⟨#[120]⟩)) (lay w L) := fun L => by
  have := ld_row (h.row.lay L) (i := 0) (x := notX) rfl
  rwa [Nat.zero_mul, Nat.add_zero] at this
 rw [show [notX].length = 1 from rfl] at hc3 hrc
 unfold notC at hrow
 clear h
 refine lay_start ?_
 go_enter Tryz.func21, Tryz.ntmps21
 go_wp2_with fail
 refine wp_loop_rounds 2 ?_
 rw [rounds_succ]
 go_wp2_with (first | (go_at_call 71; refine (HC.out _).mono ?_; rintro e w' ⟨rfl, d2, rfl⟩; rw [lay_bw]) | (at_builtin; refine push_rec rOk rfl _ _ rfl w _ notX (notC ⟨#[120]⟩) 78 _ (.slice none 0 0) [] (lay_extends w _) (OwG.nil _ _ _) (lay_get w _ 0 _ rfl) rfl rfl rfl (by decide) trivial ?_; intro v' d' hv'))
 obtain ⟨va, vc, rfl⟩ := hv'.form
 rw [show ([] ++ [notX] : List RcC).length = 1 from rfl]
 clear hv'
 rw [show bw w d' = lay w [.inr d'] from rfl]
 go_wp2_with fail
 rw [rounds_succ]
 go_wp2_with fail
 exact bodyPost_ret (v := .slice va 1 vc) (by simp [results, Tryz.results21, go_sem]) rfl ⟨va, vc, _, rfl, (lay_ex w _).choose_spec⟩
theorem jn_Format (w : World) : Calls Tryz.prog 16 #[.int .i64 (-1)] w fun e w' => e = .returned (.tuple #[.agg #[.slice none 0 0, .int .i64 0, .int .i64 (-1)], .int .i64 0]) ∧ ∃ d, w' = bw w d := by
 refine lay_start ?_
 go_enter Tryz.func16, Tryz.ntmps16
 go_wp2_with fail
 exact bodyPost_ret (v := .tuple #[.agg #[.slice none 0 0, .int .i64 0, .int .i64 (-1)], .int .i64 0]) (by simp [results, Tryz.results16, go_sem]) rfl ⟨rfl, lay_ex _ _⟩
end Go.Proofs.YtcbicpbbjbkiaaaGreatDoor
namespace Go.Proofs.YtcbicpbbjbkiaaaGreatDoor
open Go.RowKit Go.Shelf

theorem lay_bw0 (w : World) (d : Ext) : bw w d = lay w [.inr d] := rfl
theorem b_cat (a b : ByteArray) : (a ++ b).data.toList = a.data.toList ++ b.data.toList := by rw [ByteArray.data_append]; simp
theorem b_cat_size (a b : ByteArray) : (a ++ b).size = a.size + b.size := by rw [ByteArray.size_append]
set_option maxHeartbeats 2000000 in
set_option maxRecDepth 100000 in
theorem tp_text (n : Int) (h : n % 100 = 0) (h0 : -1099511627776 ≤ n) (h1 : n ≤ 1099511627776) (w : World) (hT : TpW w) :
  Calls Tryz.prog 54 #[.int .i64 n] w fun e w' => e = .returned (.string (strB (txtL n))) ∧ ∃ d, w' = bw w d := by
 obtain ⟨m, hm⟩ : ∃ m, m = n.natAbs := ⟨_, rfl⟩
 have hm1 : m % 100 = 0 := by omega
 have hm2 : m ≤ 1099511627776 := by omega
 obtain ⟨⟨e1, e2, e3⟩, ⟨e4, e5, e6⟩, e7⟩ := txt_parts hm1 hm2
 have HI1 := Lib.hid (fun L => tp_Itoa (m / 60000) (by omega) (lay w L) (hT.lay L))
 have HI2 := Lib.hid (fun L => tp_Itoa (m % 1000 / 100) (by omega) (lay w L) (hT.lay L))
 have HP := Lib.hid (fun L => tp_padded (m % 60000 / 1000) 2 (by omega) (by decide) (lay w L) (hT.lay L))
 rw [show ((2 : Nat) : Int) = 2 from rfl] at HP
 have l1 := dec_len9 e7
 have l2 := dec_len9 (n := m % 1000 / 100) (by omega)
 have l3 := pad2_le (n := m % 60000 / 1000) (by omega)
 have z1 := strB_size (Lib.decDigits (m / 60000))
 have z2 := strB_size (Lib.decDigits (m % 1000 / 100))
 have z3 := strB_size (padL (m % 60000 / 1000) 2)
 have t1 := strB_list (Lib.decDigits (m / 60000))
 have t2 := strB_list (Lib.decDigits (m % 1000 / 100))
 have t3 := strB_list (padL (m % 60000 / 1000) 2)
 have hA := abs_at hm1
 have k5 : (((m % 1000 : Nat) : Int).tmod 100 == 0) = true := by rw [e5]; rfl
 obtain ⟨A, hAA⟩ : ∃ A, absL m = A := ⟨_, rfl⟩
 have hfin : txtL n = (if n < 0 then [45] else []) ++ A := by unfold txtL; rw [← hm, hAA]
 rw [hAA] at hA
 have w1 : IntKind.i64.wrap ((m / 60000 : Nat) : Int) = ((m / 60000 : Nat) : Int) := IntWalk.i64_in _ (by omega)
 have w2 : IntKind.i64.wrap ((m % 1000 / 100 : Nat) : Int) = ((m % 1000 / 100 : Nat) : Int) := IntWalk.i64_in _ (by omega)
 have w3 : IntKind.i64.wrap ((m % 60000 / 1000 : Nat) : Int) = ((m % 60000 / 1000 : Nat) : Int) := IntWalk.i64_in _ (by omega)
 have w4 : IntKind.i64.wrap ((m % 60000 : Nat) : Int) = ((m % 60000 : Nat) : Int) := IntWalk.i64_in _ (by omega)
 have w5 : IntKind.i64.wrap ((m % 1000 : Nat) : Int) = ((m % 1000 : Nat) : Int) := IntWalk.i64_in _ (by omega)
 clear e5 e7 hAA hT
 generalize strB (Lib.decDigits (m / 60000)) = S1 at *
 generalize strB (Lib.decDigits (m % 1000 / 100)) = S2 at *
 generalize strB (padL (m % 60000 / 1000) 2) = S3 at *
 generalize Lib.decDigits (m / 60000) = L1 at *
 generalize Lib.decDigits (m % 1000 / 100) = L2 at *
 generalize padL (m % 60000 / 1000) 2 = L3 at *
 generalize ((m / 60000 : Nat) : Int) = D at *
 generalize ((m % 1000 / 100 : Nat) : Int) = X at *
 generalize ((m % 60000 / 1000 : Nat) : Int) = U at *
 generalize ((m % 60000 : Nat) : Int) = R at *
 generalize ((m % 1000 : Nat) : Int) = V at *
 obtain ⟨M, hM⟩ : ∃ M : Int, (m : Int) = M := ⟨_, rfl⟩
 rw [hM] at e1 e2 e4
 have s1 : ¬ 9223372036854775807 < S1.size + (⟨#[45]⟩ : ByteArray).size := by show ¬ _ < S1.size + 1; omega
 have s2 : ¬ 9223372036854775807 < (S1 ++ (⟨#[45]⟩ : ByteArray)).size + S3.size := by rw [b_cat_size]; show ¬ _ < S1.size + 1 + S3.size; omega
 have s3 : ¬ 9223372036854775807 < (S1 ++ (⟨#[45]⟩ : ByteArray) ++ S3).size + (⟨#[46]⟩ : ByteArray).size := by rw [b_cat_size, b_cat_size]; show ¬ _ < S1.size + 1 + S3.size + 1; omega
 obtain ⟨T, hT⟩ : ∃ T, S1 ++ (⟨#[45]⟩ : ByteArray) ++ S3 ++ (⟨#[46]⟩ : ByteArray) = T := ⟨_, rfl⟩
 have hTl : T.data.toList = L1 ++ [45] ++ L3 ++ [46] := by rw [← hT, b_cat, b_cat, b_cat, t1, t3]
 have hTL : T.data.toList.length = T.size := (Lib.size_eq T).symm
 have hTs : T.size ≤ 20 := by rw [← hT, b_cat_size, b_cat_size, b_cat_size]; show S1.size + 1 + S3.size + 1 ≤ 20; omega
 by_cases hn : n < 0
 ·have hneg : IntKind.i64.wrap (-n) = M := by rw [IntWalk.i64_in _ (by omega)]; omega
  rw [if_pos hn] at hfin
  have hF : [] ++ [45] ++ T.data.toList ++ S2.data.toList = txtL n := by rw [hfin, hA, hTl, t2]; simp
  have hlen : ([] : List UInt8).length + 0 ≤ 1000000 := by decide
  have l4 := l2
  clear h hm hm1 hm2 h0 h1 l1 l3 z1 z3 t1 t3 hM
  refine lay_start ?_
  go_enter Tryz.func54, Tryz.ntmps54
  have hB0 := bdi_new w
  go_wp2_with fail
  refine (bdi_WB w _ [] 45 45 rfl _ hB0 (by decide)).mono ?_
  rintro e w' ⟨rfl, d1, rfl, hB1⟩
  rw [lay_bw0] at hB1 ⊢
  go_wp2_with (first | (go_at_call 81; first | ((with_reducible refine (HI1.out _).mono ?_); rintro e w' ⟨rfl, dq, rfl⟩; rw [lay_bw]) | ((with_reducible refine (HI2.out _).mono ?_); rintro e w' ⟨rfl, dq, rfl⟩; rw [lay_bw])) | (go_at_call 116; refine (HP.out _).mono ?_; rintro e w' ⟨rfl, dq, rfl⟩; rw [lay_bw]))
  refine (bdi_WS w _ _ T _ (hB1.on [_, _]) (by simp only [List.length_append, List.length_cons, List.length_nil]; omega)).mono ?_
  rintro e w' ⟨rfl, d2, rfl, hB2⟩
  rw [lay_bw0] at hB2 ⊢
  go_wp2_with (first | (go_at_call 81; first | ((with_reducible refine (HI1.out _).mono ?_); rintro e w' ⟨rfl, dq, rfl⟩; rw [lay_bw]) | ((with_reducible refine (HI2.out _).mono ?_); rintro e w' ⟨rfl, dq, rfl⟩; rw [lay_bw])) | (go_at_call 116; refine (HP.out _).mono ?_; rintro e w' ⟨rfl, dq, rfl⟩; rw [lay_bw]))
  refine (bdi_WS w _ _ S2 _ (hB2.on [_]) (by simp only [List.length_append, List.length_cons, List.length_nil, hTL]; omega)).mono ?_
  rintro e w' ⟨rfl, d3, rfl, hB3⟩
  rw [lay_bw0] at hB3 ⊢
  rw [hF] at hB3
  clear hF hTl t2 hfin hA
  go_wp2_with fail
  refine (bdi_St w _ _ _ hB3).mono ?_
  rintro e w' ⟨rfl, d4, rfl⟩
  rw [lay_bw0]
  go_wp2_with fail
  go_ret
  exact ⟨rfl, lay_ex _ _⟩
 ·have hM2 : n = M := by omega
  rw [if_neg hn] at hfin
  have hF : [] ++ T.data.toList ++ S2.data.toList = txtL n := by rw [hfin, hA, hTl, t2]; simp
  rw [← hM2] at e1 e2 e4
  clear h hm hm1 hm2 h0 h1 l1 l3 z1 z3 t1 t3 hM hM2
  refine lay_start ?_
  go_enter Tryz.func54, Tryz.ntmps54
  have hB0 := bdi_new w
  go_wp2_with (first | (go_at_call 81; first | ((with_reducible refine (HI1.out _).mono ?_); rintro e w' ⟨rfl, dq, rfl⟩; rw [lay_bw]) | ((with_reducible refine (HI2.out _).mono ?_); rintro e w' ⟨rfl, dq, rfl⟩; rw [lay_bw])) | (go_at_call 116; refine (HP.out _).mono ?_; rintro e w' ⟨rfl, dq, rfl⟩; rw [lay_bw]))
  refine (bdi_WS w _ _ T _ (hB0.on [_, _]) (by show 0 + T.size ≤ 1000000; omega)).mono ?_
  rintro e w' ⟨rfl, d2, rfl, hB2⟩
  rw [lay_bw0] at hB2 ⊢
  go_wp2_with (first | (go_at_call 81; first | ((with_reducible refine (HI1.out _).mono ?_); rintro e w' ⟨rfl, dq, rfl⟩; rw [lay_bw]) | ((with_reducible refine (HI2.out _).mono ?_); rintro e w' ⟨rfl, dq, rfl⟩; rw [lay_bw])) | (go_at_call 116; refine (HP.out _).mono ?_; rintro e w' ⟨rfl, dq, rfl⟩; rw [lay_bw]))
  refine (bdi_WS w _ _ S2 _ (hB2.on [_]) (by simp only [List.length_append, List.length_nil, hTL]; omega)).mono ?_
  rintro e w' ⟨rfl, d3, rfl, hB3⟩
  rw [lay_bw0] at hB3 ⊢
  rw [hF] at hB3
  clear hF hTl t2 hfin hA
  go_wp2_with fail
  refine (bdi_St w _ _ _ hB3).mono ?_
  rintro e w' ⟨rfl, d4, rfl⟩
  rw [lay_bw0]
  go_wp2_with fail
  go_ret
  exact ⟨rfl, lay_ex _ _⟩
end Go.Proofs.YtcbicpbbjbkiaaaGreatDoor

/- Contracts and plain laws, several texts in one: TpF; TpG; TpH; TpI; Plv; TpY; TpN; TpX; TqG; TqH; TqI -/
import Derived.Test.YtcbicpbbjbkiaaaGreatDoorProg
import Derived.WalkKit
import Derived.WalkSpells
import Derived.WalkLawsBesides
import Derived.Lib.Hide
import Derived.BigQuiet
import Derived.Lib.ConvBytes
import Derived.Test.YtcbicpbbjbkiaaaGreatDoorZmAA
import Derived.Test.YtcbicpbbjbkiaaaGreatDoorZmAG
import Derived.Test.YtcbicpbbjbkiaaaGreatDoorZmAH
import Derived.Test.YtcbicpbbjbkiaaaGreatDoorZmAI
import Derived.Test.YtcbicpbbjbkiaaaGreatDoorZmAK
import Derived.Test.YtcbicpbbjbkiaaaGreatDoorZmAL
namespace Go.Proofs.YtcbicpbbjbkiaaaGreatDoor
set_option maxHeartbeats 1000000
open Go.RowKit Go.Shelf

theorem ang_floor (a b : Int) (w : World) (hb : 1 ≤ b) (h1 : -9223372036854775807 ≤ a) (h2 : a ≤ 9223372036854775807) :
  Calls Tryz.prog 52 #[.int .i64 a, .int .i64 b] w fun e w' => e = .returned (.int .i64 (a / b)) ∧ ∃ d, w' = bw w d := by
 refine lay_start ?_
 go_enter Tryz.func52, Tryz.ntmps52
 go_wp2
 ·go_ret
  refine ⟨ret_int ?_, lay_ex _ _⟩
  rw [IntWalk.wrap64_in]
  ·exact floor_neg hb ‹_›
  ·rw [floor_neg hb ‹_›]; have := ediv_bd hb 9223372036854775807 (by decide) h1 h2; omega
 ·go_ret
  exact ⟨ret_int (floor_pos hb ‹_›), lay_ex _ _⟩
def rndT (n : Int) : Int := (n + 50) / 100 * 100
def prnL (lo hi : Int) : List UInt8 := if rndT lo = rndT hi then txtL (rndT lo) else txtL (rndT lo) ++ ([32, 46, 46, 32] ++ txtL (rndT hi))
theorem txt_len {n : Int} (h0 : -1099511627776 ≤ n) (h1 : n ≤ 1099511627776) (h : n % 100 = 0) : (txtL n).length ≤ 40 := by
 have hm : n.natAbs % 100 = 0 := by omega
 have l1 := dec_len9 (n := n.natAbs / 60000) (by omega)
 have l2 := dec_len9 (n := n.natAbs % 1000 / 100) (by omega)
 have l3 := pad2_le (n := n.natAbs % 60000 / 1000) (by omega)
 unfold txtL
 rw [abs_at hm]
 split <;> simp only [List.length_append, List.length_cons, List.length_nil] <;> omega
set_option maxRecDepth 100000 in
theorem tp_Print (lo hi : Int) (hv : lo ≤ hi) (h0 : -1099511627000 ≤ lo) (h1 : hi ≤ 1099511627000) (w : World) (hT : TpW w) :
  Calls Tryz.prog 13 #[(.agg #[.int .i64 (lo), .int .i64 (hi)])] w fun e w' => e = .returned (.tuple #[.string (strB (prnL lo hi)), .int .i64 0]) ∧ ∃ d, w' = bw w d := by
 have hval : validB lo hi = true := validB_iff.2 (by omega)
 have HV := Lib.hid (fun W => angle_Valid lo hi W)
 rw [hval] at HV
 have HF1 := Lib.hid (fun W => ang_floor (lo + 50) 100 W (by decide) (by omega) (by omega))
 have HF2 := Lib.hid (fun W => ang_floor (hi + 50) 100 W (by decide) (by omega) (by omega))
 have b1 : -1099511627100 ≤ rndT lo ∧ rndT lo ≤ 1099511627100 ∧ rndT lo % 100 = 0 := by unfold rndT; omega
 have b2 : -1099511627100 ≤ rndT hi ∧ rndT hi ≤ 1099511627100 ∧ rndT hi % 100 = 0 := by unfold rndT; omega
 have HT1 := Lib.hid (fun L => tp_text (rndT lo) b1.2.2 (by omega) (by omega) (lay w L) (hT.lay L))
 have HT2 := Lib.hid (fun L => tp_text (rndT hi) b2.2.2 (by omega) (by omega) (lay w L) (hT.lay L))
 have HG1 := Lib.hid (fun W => angle_fits (rndT lo) W)
 have HG2 := Lib.hid (fun W => angle_fits (rndT hi) W)
 rw [show fitsB (rndT lo) = true by unfold fitsB; rw [decide_eq_true_eq]; omega] at HG1
 rw [show fitsB (rndT hi) = true by unfold fitsB; rw [decide_eq_true_eq]; omega] at HG2
 have k1 : IntKind.i64.wrap (lo + 50) = lo + 50 := IntWalk.i64_in _ (by omega)
 have k2 : IntKind.i64.wrap (hi + 50) = hi + 50 := IntWalk.i64_in _ (by omega)
 have k3 : IntKind.i64.wrap ((lo + 50) / 100 * 100) = rndT lo := IntWalk.i64_in _ (by unfold rndT at b1; omega)
 have k4 : IntKind.i64.wrap ((hi + 50) / 100 * 100) = rndT hi := IntWalk.i64_in _ (by unfold rndT at b2; omega)
 have z1 := txt_len (by omega) (by omega) b1.2.2
 have z2 := txt_len (by omega) (by omega) b2.2.2
 have y1 := strB_size (txtL (rndT lo))
 have y2 := strB_size (txtL (rndT hi))
 have hp : strB (prnL lo hi) = if rndT lo = rndT hi then strB (txtL (rndT lo)) else strB (txtL (rndT lo)) ++ ⟨#[32, 46, 46, 32]⟩ ++ strB (txtL (rndT hi)) := by
  unfold prnL
  split
  ·rfl
  ·rw [show (⟨#[32, 46, 46, 32]⟩ : ByteArray) = strB [32, 46, 46, 32] from rfl, strB_app, strB_app, List.append_assoc]
 rw [hp]
 clear hp hval hv h0 h1 hT b1 b2
 generalize strB (txtL (rndT lo)) = S1 at *
 generalize strB (txtL (rndT hi)) = S2 at *
 generalize rndT lo = r1 at *
 generalize rndT hi = r2 at *
 generalize (lo + 50) / 100 = q1 at *
 generalize (hi + 50) / 100 = q2 at *
 have s1 : ¬ 9223372036854775807 < S1.size + (⟨#[32, 46, 46, 32]⟩ : ByteArray).size := by show ¬ _ < S1.size + 4; omega
 have s2 : ¬ 9223372036854775807 < (S1 ++ (⟨#[32, 46, 46, 32]⟩ : ByteArray)).size + S2.size := by rw [b_cat_size]; show ¬ _ < S1.size + 4 + S2.size; omega
 clear z1 z2 y1 y2
 by_cases he : r1 = r2
 ·subst he
  rw [if_pos rfl]
  refine lay_start ?_
  go_enter Tryz.func13, Tryz.ntmps13
  go_wp2_with (go_at_call 38; refine (HV.out _).mono ?_; rintro e w' ⟨rfl, dq, rfl⟩; rw [lay_bw])
  refine region_bw (by kernel_rfl) (by kernel_rfl) ?_
  repeat (go_big_quiet_step ((first | (go_at_call 52; first | ((with_reducible refine bq (HF1.out _) ?_); exact (fun d => ⟨d, rfl⟩)) | ((with_reducible refine bq (HF1.out _) ?_); exact (fun d => lay_join _ _ _ d)) | ((with_reducible refine bq (HF2.out _) ?_); exact (fun d => ⟨d, rfl⟩)) | ((with_reducible refine bq (HF2.out _) ?_); exact (fun d => lay_join _ _ _ d))))))
  refine wpQuiet_nil ?_
  rintro w' ⟨d, rfl⟩
  rw [lay_bw]
  have hq : (r1 == r1) = true := beq_self_eq_true _
  go_wp2_with (first | (go_at_call 53; refine (HG1.out _).mono ?_; rintro e w' ⟨rfl, rfl⟩) | (go_at_call 54; refine (HT1.out _).mono ?_; rintro e w' ⟨rfl, dq, rfl⟩; rw [lay_bw]))
  exact bodyPost_ret (v := .tuple #[.string S1, .int .i64 0]) (by simp [results, Tryz.results13, go_sem]) rfl ⟨rfl, lay_ex _ _⟩
 ·rw [if_neg he]
  have hq : (r1 == r2) = false := beq_eq_false_iff_ne.2 he
  refine lay_start ?_
  go_enter Tryz.func13, Tryz.ntmps13
  go_wp2_with (go_at_call 38; refine (HV.out _).mono ?_; rintro e w' ⟨rfl, dq, rfl⟩; rw [lay_bw])
  refine region_bw (by kernel_rfl) (by kernel_rfl) ?_
  repeat (go_big_quiet_step ((first | (go_at_call 52; first | ((with_reducible refine bq (HF1.out _) ?_); exact (fun d => ⟨d, rfl⟩)) | ((with_reducible refine bq (HF1.out _) ?_); exact (fun d => lay_join _ _ _ d)) | ((with_reducible refine bq (HF2.out _) ?_); exact (fun d => ⟨d, rfl⟩)) | ((with_reducible refine bq (HF2.out _) ?_); exact (fun d => lay_join _ _ _ d))))))
  refine wpQuiet_nil ?_
  rintro w' ⟨d, rfl⟩
  rw [lay_bw]
  go_wp2_with (first | (go_at_call 53; first | ((with_reducible refine (HG1.out _).mono ?_); rintro e w' ⟨rfl, rfl⟩) | ((with_reducible refine (HG2.out _).mono ?_); rintro e w' ⟨rfl, rfl⟩)) | (go_at_call 54; first | ((with_reducible refine (HT1.out _).mono ?_); rintro e w' ⟨rfl, dq, rfl⟩; rw [lay_bw]) | ((with_reducible refine (HT2.out _).mono ?_); rintro e w' ⟨rfl, dq, rfl⟩; rw [lay_bw])))
  exact bodyPost_ret (v := .tuple #[.string (S1 ++ ⟨#[32, 46, 46, 32]⟩ ++ S2), .int .i64 0]) (by simp [results, Tryz.results13, go_sem]) rfl ⟨rfl, lay_ex _ _⟩
end Go.Proofs.YtcbicpbbjbkiaaaGreatDoor
namespace Go.Proofs.YtcbicpbbjbkiaaaGreatDoor
open Go.RowKit Go.Shelf Go.Lib

def stpN (n : Nat) (c : UInt8) : Nat := min (10 * n + (c.toNat - 48)) 1125899906842624
def digN (n : Nat) (l : List UInt8) : Nat := l.foldl stpN n
theorem digN_nil (n : Nat) : digN n [] = n := rfl
theorem digN_s (n : Nat) (c : UInt8) (t : List UInt8) : digN n (c :: t) = digN (stpN n c) t := List.foldl_cons ..
theorem digL_N (l : List UInt8) : ∀ (n m : Nat), digL n l = some m → digN n l = m ∧ ∀ c ∈ l, IsDg c := by
 induction l with
 | nil => intro n m h; exact ⟨Option.some.inj h, fun _ h => absurd h List.not_mem_nil⟩
 | cons c t ih =>
  intro n m h
  rw [digL_s] at h
  split at h
  ·rename_i g
   obtain ⟨a, b⟩ := ih _ m h
   refine ⟨by rw [digN_s]; unfold stpN; exact a, fun x hx => ?_⟩
   rcases List.mem_cons.1 hx with rfl | hx
   ·exact g
   ·exact b x hx
  ·cases h
theorem digN_app (b : List UInt8) (a : List UInt8) (n : Nat) : digN n (a ++ b) = digN (digN n a) b := List.foldl_append ..
theorem digN_take {l : List UInt8} {k : Nat} {c : UInt8} (h : l[k]? = some c) : digN 0 (l.take (k + 1)) = min (10 * digN 0 (l.take k) + (c.toNat - 48)) 1125899906842624 := by
 rw [List.take_add_one, h, digN_app, show (some c).toList = [c] from rfl, digN_s, digN_nil]
 unfold stpN
 rfl
theorem digN_le (l : List UInt8) (k : Nat) : digN 0 (l.take k) ≤ 1125899906842624 := by
 induction k with
 | zero => rw [List.take_zero, digN_nil]; omega
 | succ k ih =>
  cases h : l[k]? with
  | none =>
   rw [List.take_add_one, h]
   simpa using ih
  | some c => rw [digN_take h]; omega
theorem conv_bytes (S : ByteArray) (w : World) : ∃ (d : Ext) (cap : Nat), (convert 9 68 (.string S)).run Tryz.prog (lay w []) = .ok (.slice (some ⟨posn w [], 0, none⟩) S.size cap) (lay w [.inr d]) ∧ ∀ (j : Nat) (c : UInt8), S.data.toList[j]? = some c → (lay w [.inr d]).cell? ⟨posn w [], j, none⟩ = some (.int .u8 (c.toNat : Int)) := by
 have h := Lib.run_convert_string_bytes w 9 68 5 S Tryz.underlying9 Tryz.underlying68 Tryz.underlying5
 have hb : Below w.heap.size w (Lib.bytesWorld w 5 S) := ⟨rfl, rfl, rfl, by rw [Lib.bytesWorld_size]; omega, fun k hk => Lib.bytesWorld_at_old w _ S k hk⟩
 obtain ⟨d, hd⟩ := bw_of hb
 refine ⟨d, _, by rw [show lay w [] = w from rfl, h, hd]; rfl, fun j c hj => ?_⟩
 have hl : j < S.size := by rw [Lib.size_eq]; exact (List.getElem?_eq_some_iff.1 hj).1
 have := Lib.bytesWorld_cell w 5 S j hl
 rw [hd] at this
 rw [show List.getD S.data.toList j 0 = c by rw [List.getD_eq_getElem?_getD, hj]; rfl] at this
 exact this
set_option maxHeartbeats 1000000 in
set_option maxRecDepth 100000 in
theorem tp_digits (l : List UInt8) (n : Nat) (hd : digL 0 l = some n) (hne : l ≠ []) (hlen : l.length ≤ 1000) (w : World) :
  Calls Tryz.prog 114 #[.string (strB l)] w fun e w' => e = .returned (.tuple #[.int .i64 (n : Int), .bool true]) ∧ ∃ d, w' = bw w d := by
 obtain ⟨hN, hdg⟩ := digL_N l 0 n hd
 obtain ⟨d0, cap, hcv, hcell⟩ := conv_bytes (strB l) w
 rw [strB_list] at hcell
 obtain ⟨m, hm⟩ : ∃ m, l.length = m := ⟨_, rfl⟩
 have hsz : (strB l).size = m := by rw [strB_size, hm]
 rw [hsz] at hcv
 have HC := Lib.hid hcell
 have HD := Lib.hid hdg
 have HN : Hid (digN 0 (l.take m) = n) := Lib.hid (by rw [List.take_of_length_le (by omega)]; exact hN)
 have HT := Lib.hid (fun (k : Nat) (c : UInt8) (h : l[k]? = some c) => digN_take h)
 have HL := Lib.hid (fun k => digN_le l k)
 have HM := Lib.hid hm
 have hem : ((strB l).toList == []) = false := by
  rw [ByteArray.toList_eq, strB_list]
  cases l with
  | nil => exact absurd rfl hne
  | cons _ _ => rfl
 have hbig : m ≤ 1000 := by omega
 clear hd hne hlen hN hdg hcell hsz hm
 generalize strB l = S at *
 refine lay_start ?_
 go_enter Tryz.func114, Tryz.ntmps114
 go_wp2_with fail
 go_loopw [10, 4] (fun i v wr => ∃ k : Nat, k ≤ m ∧ i = .int .i64 (k : Int) ∧ v = .int .i64 (digN 0 (l.take k) : Nat) ∧ wr = lay w [.inr d0]) (fun i _ _ => m - (intOf i).toNat)
 case atStart => exact ⟨0, Nat.zero_le _, rfl, rfl, rfl⟩
 case round =>
  obtain ⟨k, hk, rfl, rfl, rfl⟩ := hrel
  by_cases hlt : k < m
  ·obtain ⟨c, hc⟩ : ∃ c, l[k]? = some c := ⟨_, List.getElem?_eq_getElem (by rw [HM.out]; exact hlt)⟩
   have e0 := HC.out k c hc
   obtain ⟨g0, g1⟩ := HD.out c (List.mem_of_getElem? hc)
   have hT := HT.out k c hc
   have hL := HL.out k
   have hL2 := HL.out (k + 1)
   have x1 : (k : Int) < (m : Int) := by omega
   obtain ⟨x, hx⟩ : ∃ x : Int, (c.toNat : Int) = x := ⟨_, rfl⟩
   have hN2 := Lib.hid hT
   obtain ⟨V, hV⟩ : ∃ V : Nat, digN 0 (l.take k) = V := ⟨_, rfl⟩
   obtain ⟨V', hV'⟩ : ∃ V' : Nat, digN 0 (l.take (k + 1)) = V' := ⟨_, rfl⟩
   rw [hV] at hL hT
   rw [hV'] at hT hL2
   rw [hV]
   rw [hx] at e0
   have y1 : ¬ x < 48 := by omega
   have y2 : ¬ 57 < x := by omega
   have y3 : IntKind.u8.wrap (x - 48) = x - 48 := IntWalk.u8_in _ (by omega)
   have y4 : IntKind.i64.wrap (x - 48) = x - 48 := IntWalk.i64_in _ (by omega)
   have y5 : IntKind.i64.wrap (10 * (V : Int)) = 10 * (V : Int) := IntWalk.i64_in _ (by omega)
   have y6 : IntKind.i64.wrap (10 * (V : Int) + (x - 48)) = 10 * (V : Int) + (x - 48) := IntWalk.i64_in _ (by omega)
   have y7 : mn (10 * (V : Int) + (x - 48)) 1125899906842624 = (V' : Int) := by rw [mn_eq]; omega
   have HV' := Lib.hid hV'
   clear hT hL hL2 hV hV' hx g0 g1 hc hN2
   generalize (V : Int) = VI at *
   go_wp2_with fail
   go_roundw
   case rel => exact ⟨k + 1, by omega, by go_num, by rw [HV'.out], by first | rfl | trivial⟩
   case measure => simp [intOf]; omega
  ·obtain rfl : k = m := by omega
   rw [HN.out]
   go_wp2_with fail
   exact bodyPost_ret (v := .tuple #[.int .i64 (n : Int), .bool true]) (by simp [results, Tryz.results114, go_sem]) rfl ⟨rfl, lay_ex _ _⟩
theorem txt_pre (n : Int) : Lib.hasPrefix (txtL n) [45] = decide (n < 0) ∧ Lib.trimPrefix (txtL n) [45] = absL n.natAbs := by
 by_cases h : n < 0
 ·rw [txt_neg h, decide_eq_true h]
  unfold Lib.trimPrefix Lib.hasPrefix
  exact ⟨by simp, by simp⟩
 ·rw [txt_nn (by omega), decide_eq_false h]
  obtain ⟨c, t, e⟩ : ∃ c t, absL n.natAbs = c :: t := by
   unfold absL
   cases hd : Lib.decDigits (n.natAbs / 60000) with
   | nil => exact absurd hd (dec_ne _)
   | cons c t => exact ⟨c, _, rfl⟩
  have hc : c ≠ 45 := by
   have : c ∈ Lib.decDigits (n.natAbs / 60000) := by
    unfold absL at e
    cases hd : Lib.decDigits (n.natAbs / 60000) with
    | nil => exact absurd hd (dec_ne _)
    | cons c' t' =>
     rw [hd] at e
     have := (List.cons.inj e).1
     rw [← this]; exact List.mem_cons_self
   exact dg_ne (dec_dig _ c this) (by decide)
  have hp : Lib.hasPrefix (absL n.natAbs) [45] = false := by
   rw [e]
   unfold Lib.hasPrefix
   simp [List.isPrefixOf]
   exact fun h => hc h.symm
  refine ⟨hp, ?_⟩
  unfold Lib.trimPrefix
  rw [hp]
  rfl
theorem abs_cut {m : Nat} (h : m % 100 = 0) : Lib.cut (absL m) [45] = (Lib.decDigits (m / 60000), padL (m % 60000 / 1000) 2 ++ ([46] ++ Lib.decDigits (m % 1000 / 100)), true) := by
 rw [abs_at h, show Lib.decDigits (m / 60000) ++ [45] ++ padL (m % 60000 / 1000) 2 ++ [46] ++ Lib.decDigits (m % 1000 / 100) = Lib.decDigits (m / 60000) ++ ([45] ++ (padL (m % 60000 / 1000) 2 ++ ([46] ++ Lib.decDigits (m % 1000 / 100)))) by simp]
 exact cut_at (fun x hx => dg_ne (dec_dig _ x hx) (by decide))
theorem rest_cut (a b : Nat) : Lib.cut (padL a 2 ++ ([46] ++ Lib.decDigits b)) [46] = (padL a 2, Lib.decDigits b, true) := cut_at (fun x hx => dg_ne (padL_dig _ _ x hx) (by decide))
theorem dec_len1 {n : Nat} (h : n < 10) : (Lib.decDigits n).length = 1 := by rw [dec_small h]; rfl
theorem tp_Cut (l sep a b : List UInt8) (q : Bool) (hc : Lib.cut l sep = (a, b, q)) (hl : l.length ≤ 1000000) (w : World) (hT : TpW w) :
  Calls Tryz.prog 11 #[.string (strB l), .string (strB sep)] w fun e w' => e = .returned (.tuple #[.string (strB a), .string (strB b), .bool q]) ∧ ∃ d, w' = bw w d := by
 obtain ⟨m, hm⟩ := hT.ml
 refine (Tryz.strings_Cut (strB l) (strB sep) m w (by rw [strB_size]; omega) hm).mono ?_
 rintro e w' ⟨rfl, k, rfl⟩
 refine ⟨?_, tp_drewN w k⟩
 rw [strB_list, strB_list, hc]
 rfl
theorem tp_CutPrefix (l p a : List UInt8) (q : Bool) (h1 : Lib.hasPrefix l p = q) (h2 : Lib.trimPrefix l p = a) (w : World) :
  Calls Tryz.prog 113 #[.string (strB l), .string (strB p)] w fun e w' => e = .returned (.tuple #[.string (strB a), .bool q]) ∧ ∃ d, w' = bw w d := by
 refine (Tryz.strings_CutPrefix (strB l) (strB p) w).mono ?_
 rintro e w' ⟨rfl, rfl⟩
 refine ⟨?_, _, (bw_noExt w').symm⟩
 rw [strB_list, strB_list, h1, h2]
 rfl
theorem parse_sums {D U X M : Int} (hs : D * 60000 + U * 1000 + X * 100 = M) (bD : D ≤ 18325194 ∧ 0 ≤ D) (bU : U < 60 ∧ 0 ≤ U) (bX : X < 10 ∧ 0 ≤ X) :
  IntKind.i64.wrap (D * 60000) = D * 60000 ∧ IntKind.i64.wrap (U * 1000) = U * 1000 ∧ IntKind.i64.wrap (D * 60000 + U * 1000) = D * 60000 + U * 1000 ∧ IntKind.i64.wrap (D * 60000 + U * 1000 + X * 100) = M ∧ IntKind.i64.wrap (X * 10) = X * 10 ∧ IntKind.i64.wrap (X * 10 * 10) = X * 100 := by
 refine ⟨IntWalk.i64_in _ (by omega), IntWalk.i64_in _ (by omega), IntWalk.i64_in _ (by omega), ?_, IntWalk.i64_in _ (by omega), ?_⟩
 ·rw [hs]; exact IntWalk.i64_in _ (by omega)
 ·rw [show X * 10 * 10 = X * 100 by omega]; exact IntWalk.i64_in _ (by omega)
theorem parse_neg {n : Int} {m : Nat} (hm : m = n.natAbs) (h0 : -1099511627776 ≤ n) (h1 : n ≤ 1099511627776) : (n < 0 → IntKind.i64.wrap (-(m : Int)) = n) ∧ (0 ≤ n → (m : Int) = n) := by
 refine ⟨fun hn => ?_, fun hn => by omega⟩
 rw [IntWalk.i64_in _ (by omega)]; omega
set_option maxHeartbeats 2000000 in
set_option maxRecDepth 100000 in
theorem tp_Parse (n : Int) (h : n % 100 = 0) (h0 : -1099511627776 ≤ n) (h1 : n ≤ 1099511627776) (w : World) (hT : TpW w) :
  Calls Tryz.prog 51 #[.string (strB (txtL n))] w fun e w' => e = .returned (.tuple #[.int .i64 n, .int .i64 0]) ∧ ∃ d, w' = bw w d := by
 obtain ⟨m, hm⟩ : ∃ m, m = n.natAbs := ⟨_, rfl⟩
 have hm1 : m % 100 = 0 := by omega
 have hm2 : m ≤ 1099511627776 := by omega
 obtain ⟨p1, p2⟩ := txt_pre n
 rw [← hm] at p2
 have hC1 := abs_cut hm1
 have hC2 := rest_cut (m % 60000 / 1000) (m % 1000 / 100)
 have l1 := dec_len9 (n := m / 60000) (by omega)
 have l2 := dec_len1 (n := m % 1000 / 100) (by omega)
 have l3 := pad2_len (n := m % 60000 / 1000) (by omega)
 have lA : (absL m).length ≤ 1000 := by rw [abs_at hm1]; simp only [List.length_append, List.length_cons, List.length_nil]; omega
 have lB : (padL (m % 60000 / 1000) 2 ++ ([46] ++ Lib.decDigits (m % 1000 / 100))).length ≤ 1000 := by simp only [List.length_append, List.length_cons, List.length_nil]; omega
 have HX := Lib.hid (fun W => tp_CutPrefix (txtL n) [45] _ _ p1 p2 W)
 have HY := Lib.hid (fun L => tp_Cut _ [45] _ _ _ hC1 (by omega) (lay w L) (hT.lay L))
 have HZ := Lib.hid (fun L => tp_Cut _ [46] _ _ _ hC2 (by omega) (lay w L) (hT.lay L))
 have HD1 := Lib.hid (fun W => tp_digits _ _ (digL_dec (u := m / 60000) (by omega)) (dec_ne _) (by omega) W)
 have HD2 := Lib.hid (fun W => tp_digits _ _ (digL_pad (n := m % 60000 / 1000) (d := 2) (by omega)) (by intro e; rw [e] at l3; simp at l3) (by omega) W)
 have HD3 := Lib.hid (fun W => tp_digits _ _ (digL_dec (u := m % 1000 / 100) (by omega)) (dec_ne _) (by omega) W)
 have z1 := strB_size (Lib.decDigits (m / 60000))
 have z2 := strB_size (Lib.decDigits (m % 1000 / 100))
 have z3 := strB_size (padL (m % 60000 / 1000) 2)
 rw [l2] at z2
 rw [l3] at z3
 have HF := Lib.hid (fun W => angle_fits (m : Int) W)
 rw [show fitsB (m : Int) = true by unfold fitsB; rw [decide_eq_true_eq]; omega] at HF
 have hdig : 1 < (strB (Lib.decDigits (m / 60000))).size → bt (strB (Lib.decDigits (m / 60000))) 0 ≠ 48 := fun hl => by
  rw [z1] at hl
  have : 1 ≤ m / 60000 := by
   rcases Nat.eq_zero_or_pos (m / 60000) with e | e
   ·rw [e, dec_len1 (by decide)] at hl; omega
   ·exact e
  obtain ⟨c, t, e, hc⟩ := dec_head _ this
  unfold bt
  rw [strB_list, e]
  show ((c.toNat : Int)) ≠ 48
  omega
 have hsum : ((m / 60000 : Nat) : Int) * 60000 + ((m % 60000 / 1000 : Nat) : Int) * 1000 + ((m % 1000 / 100 : Nat) : Int) * 100 = (m : Int) := by omega
 have bD : ((m / 60000 : Nat) : Int) ≤ 18325194 ∧ 0 ≤ ((m / 60000 : Nat) : Int) := by omega
 have bU : ((m % 60000 / 1000 : Nat) : Int) < 60 ∧ 0 ≤ ((m % 60000 / 1000 : Nat) : Int) := by omega
 have bX : ((m % 1000 / 100 : Nat) : Int) < 10 ∧ 0 ≤ ((m % 1000 / 100 : Nat) : Int) := by omega
 rw [show (strB [45]) = ⟨#[45]⟩ from rfl] at HX HY
 rw [show (strB [46]) = ⟨#[46]⟩ from rfl] at HZ
 obtain ⟨hneg, hpos⟩ := parse_neg hm h0 h1
 clear l1 l2 l3 lA lB hC1 hC2 p1 p2 hm1 hm h h0 h1 hT
 generalize strB (txtL n) = T at *
 generalize strB (absL m) = A at *
 generalize strB (padL (m % 60000 / 1000) 2 ++ ([46] ++ Lib.decDigits (m % 1000 / 100))) = B at *
 generalize strB (Lib.decDigits (m / 60000)) = S1 at *
 generalize strB (Lib.decDigits (m % 1000 / 100)) = S2 at *
 generalize strB (padL (m % 60000 / 1000) 2) = S3 at *
 generalize ((m / 60000 : Nat) : Int) = D at *
 generalize ((m % 60000 / 1000 : Nat) : Int) = U at *
 generalize ((m % 1000 / 100 : Nat) : Int) = X at *
 generalize (Lib.decDigits (m / 60000)).length = q1 at *
 obtain ⟨k1, k2, k3, k4, k5, k6⟩ := parse_sums hsum bD bU bX
 have g1 : ¬ 60 ≤ U := by omega
 have g2 : ¬ 1099511627776 < D := by omega
 obtain ⟨M, hM⟩ : ∃ M : Int, (m : Int) = M := ⟨_, rfl⟩
 rw [hM] at k4 HF hneg hpos
 clear hsum bD bU bX hm2 hM
 refine lay_start ?_
 go_enter Tryz.func51, Tryz.ntmps51
 go_wp2_with (first | (go_at_call 113; refine (HX.out _).mono ?_; rintro e w' ⟨rfl, dq, rfl⟩; rw [lay_bw]) | (go_at_call 11; first | ((with_reducible refine (HY.out _).mono ?_); rintro e w' ⟨rfl, dq, rfl⟩; rw [lay_bw]) | ((with_reducible refine (HZ.out _).mono ?_); rintro e w' ⟨rfl, dq, rfl⟩; rw [lay_bw])) | (go_at_call 114; first | ((with_reducible refine (HD1.out _).mono ?_); rintro e w' ⟨rfl, dq, rfl⟩; rw [lay_bw]) | ((with_reducible refine (HD2.out _).mono ?_); rintro e w' ⟨rfl, dq, rfl⟩; rw [lay_bw]) | ((with_reducible refine (HD3.out _).mono ?_); rintro e w' ⟨rfl, dq, rfl⟩; rw [lay_bw])))
 refine wp_loop_rounds 3 ?_
 rw [rounds_succ]
 go_wp2_with fail
 rw [rounds_succ]
 go_wp2_with fail
 clear z1
 have hc : (S1.size ≤ 1) ∨ (1 < S1.size ∧ ∀ h : 0 < S1.size, (((S1[0]'h).toNat : Int) == 48) = false) := by
  rcases Nat.lt_or_ge 1 S1.size with h | h
  ·exact .inr ⟨h, fun h' => by rw [bt_get h']; exact beq_eq_false_iff_ne.2 (hdig h)⟩
  ·exact .inl h
 clear hdig
 have sgn : (decide (n < 0) = true ∧ n < 0 ∨ decide (n < 0) = false ∧ ¬ n < 0) := by
  by_cases h : n < 0
  ·exact .inl ⟨decide_eq_true h, h⟩
  ·exact .inr ⟨decide_eq_false h, h⟩
 rcases hc with hl | ⟨hl, hb⟩ <;> rcases sgn with ⟨en, hn⟩ | ⟨en, hn⟩ <;> rw [en]
 ·clear hpos
  rw [rounds_succ]
  go_wp2_with (go_at_call 53; refine (HF.out _).mono ?_; rintro e w' ⟨rfl, rfl⟩)
  exact bodyPost_ret (v := .tuple #[.int .i64 n, .int .i64 0]) (by simp [results, Tryz.results51, go_sem]) rfl ⟨rfl, lay_ex _ _⟩
 ·have hM := hpos (by omega)
  subst hM
  clear hpos hneg
  rw [rounds_succ]
  go_wp2_with (go_at_call 53; refine (HF.out _).mono ?_; rintro e w' ⟨rfl, rfl⟩)
  exact bodyPost_ret (v := .tuple #[.int .i64 M, .int .i64 0]) (by simp [results, Tryz.results51, go_sem]) rfl ⟨rfl, lay_ex _ _⟩
 ·have hb := hb (by omega)
  clear hpos
  rw [rounds_succ]
  go_wp2_with (go_at_call 53; refine (HF.out _).mono ?_; rintro e w' ⟨rfl, rfl⟩)
  exact bodyPost_ret (v := .tuple #[.int .i64 n, .int .i64 0]) (by simp [results, Tryz.results51, go_sem]) rfl ⟨rfl, lay_ex _ _⟩
 ·have hb := hb (by omega)
  have hM := hpos (by omega)
  subst hM
  clear hpos hneg
  rw [rounds_succ]
  go_wp2_with (go_at_call 53; refine (HF.out _).mono ?_; rintro e w' ⟨rfl, rfl⟩)
  exact bodyPost_ret (v := .tuple #[.int .i64 M, .int .i64 0]) (by simp [results, Tryz.results51, go_sem]) rfl ⟨rfl, lay_ex _ _⟩
theorem rnd_facts (n : Int) : rndT n % 100 = 0 ∧ rndT n - 50 ≤ n ∧ n < rndT n + 50 := by unfold rndT; omega
theorem rnd_wr {n : Int} (h0 : -1099511627000 ≤ n) (h1 : n ≤ 1099511627000) : -1099511627700 ≤ rndT n ∧ rndT n ≤ 1099511627700 ∧ IntKind.i64.wrap (rndT n - 50) = rndT n - 50 ∧ IntKind.i64.wrap (rndT n + 50) = rndT n + 50 ∧ Int.tmod (rndT n) 100 = 0 := by
 obtain ⟨a, b, c⟩ := rnd_facts n
 refine ⟨by omega, by omega, IntWalk.i64_in _ (by omega), IntWalk.i64_in _ (by omega), ?_⟩
 exact Int.tmod_eq_zero_of_dvd (Int.dvd_of_emod_eq_zero a)
theorem txt_cutno (n : Int) : Lib.cut (txtL n) [32, 46, 46, 32] = (txtL n, [], false) := cut_no (txt_noSpace n)
theorem txt_cutat (n : Int) (b : List UInt8) : Lib.cut (txtL n ++ ([32, 46, 46, 32] ++ b)) [32, 46, 46, 32] = (txtL n, b, true) := cut_at (txt_noSpace n)
set_option maxHeartbeats 2000000 in
theorem tp_recPrinted (lo hi : Int) (hv : lo ≤ hi) (h0 : -1099511627000 ≤ lo) (h1 : hi ≤ 1099511627000) (w : World) (hT : TpW w) :
  Calls Tryz.prog 12 #[(.agg #[.int .i64 (lo), .int .i64 (hi)]), .string (strB (prnL lo hi))] w fun e w' => e = .returned (.bool true) ∧ ∃ d, w' = bw w d := by
 obtain ⟨a1, a2, a3⟩ := rnd_facts lo
 obtain ⟨b1, b2, b3⟩ := rnd_facts hi
 obtain ⟨x1, x2, x3, x4, x5⟩ := rnd_wr (n := lo) (by omega) (by omega)
 obtain ⟨y1, y2, y3, y4, y5⟩ := rnd_wr (n := hi) (by omega) (by omega)
 have l1 := txt_len (n := rndT lo) (by omega) (by omega) a1
 have l2 := txt_len (n := rndT hi) (by omega) (by omega) b1
 have HP1 := Lib.hid (fun L => tp_Parse (rndT lo) a1 (by omega) (by omega) (lay w L) (hT.lay L))
 have HP2 := Lib.hid (fun L => tp_Parse (rndT hi) b1 (by omega) (by omega) (lay w L) (hT.lay L))
 unfold prnL
 by_cases he : rndT lo = rndT hi
 ·rw [if_pos he]
  have HC := Lib.hid (fun L => tp_Cut _ _ _ _ _ (txt_cutno (rndT lo)) (by omega) (lay w L) (hT.lay L))
  rw [show (strB [32, 46, 46, 32]) = ⟨#[32, 46, 46, 32]⟩ from rfl, show strB [] = ⟨#[]⟩ from rfl] at HC
  rw [← he] at b1 b2 b3 y1 y2 y3 y4 y5
  clear HP2 l1 l2 hT
  generalize strB (txtL (rndT lo)) = S at *
  generalize rndT lo = X at *
  clear he
  have hq : (X == X) = true := beq_self_eq_true _
  have hq2 : (X != X) = false := by simp
  refine lay_start ?_
  go_enter Tryz.func12, Tryz.ntmps12
  go_wp2_with (first | (go_at_call 11; refine (HC.out _).mono ?_; rintro e w' ⟨rfl, dq, rfl⟩; rw [lay_bw]) | (go_at_call 51; refine (HP1.out _).mono ?_; rintro e w' ⟨rfl, dq, rfl⟩; rw [lay_bw]))
  exact bodyPost_ret (v := .bool true) (by simp [results, Tryz.results12, go_sem]) rfl ⟨rfl, lay_ex _ _⟩
 ·rw [if_neg he]
  have HC := Lib.hid (fun L => tp_Cut _ _ _ _ _ (txt_cutat (rndT lo) (txtL (rndT hi))) (by simp only [List.length_append, List.length_cons, List.length_nil]; omega) (lay w L) (hT.lay L))
  rw [show (strB [32, 46, 46, 32]) = ⟨#[32, 46, 46, 32]⟩ from rfl] at HC
  clear l1 l2 hT
  generalize strB (txtL (rndT lo) ++ ([32, 46, 46, 32] ++ txtL (rndT hi))) = S at *
  generalize strB (txtL (rndT lo)) = S1 at *
  generalize strB (txtL (rndT hi)) = S2 at *
  generalize rndT lo = X at *
  generalize rndT hi = Y at *
  have hq : (X == Y) = false := beq_eq_false_iff_ne.2 he
  refine lay_start ?_
  go_enter Tryz.func12, Tryz.ntmps12
  go_wp2_with (first | (go_at_call 11; refine (HC.out _).mono ?_; rintro e w' ⟨rfl, dq, rfl⟩; rw [lay_bw]) | (go_at_call 51; first | ((with_reducible refine (HP1.out _).mono ?_); rintro e w' ⟨rfl, dq, rfl⟩; rw [lay_bw]) | ((with_reducible refine (HP2.out _).mono ?_); rintro e w' ⟨rfl, dq, rfl⟩; rw [lay_bw])))
  exact bodyPost_ret (v := .bool true) (by simp [results, Tryz.results12, go_sem]) rfl ⟨rfl, lay_ex _ _⟩
end Go.Proofs.YtcbicpbbjbkiaaaGreatDoor
namespace Go.Proofs.YtcbicpbbjbkiaaaGreatDoor
set_option maxHeartbeats 1000000
open Go.RowKit

def lonW (x y : Int) : Bool := decide ((x = -10800000 ∧ y = 10800000) ∨ (-10800000 ≤ x ∧ x < 10800000 ∧ x ≤ y ∧ IntKind.i64.wrap (y - x) < 21600000))
def plcW (u v x y : Int) : Bool := latB u v && lonW x y
theorem plc_lat (x0 y0 : Int) (w : World) :
  Calls Tryz.prog 110 #[(.agg #[.int .i64 (x0), .int .i64 (y0)])] w fun e w' => e = .returned (.bool (latB x0 y0)) ∧ ∃ d, w' = bw w d := by
 refine lay_start ?_
 go_enter Tryz.func110, Tryz.ntmps110
 go_wp2
 all_goals go_ret
 all_goals exact ⟨ret_bool (by rw [Bool.eq_iff_iff]; simp [latB]; try omega), lay_ex _ _⟩
theorem plc_every (w : World) :
  Calls Tryz.prog 250 #[] w fun e w' => e = .returned (.agg #[.int .i64 (-10800000), .int .i64 (10800000)]) ∧ ∃ d, w' = bw w d := by
 refine lay_start ?_
 go_enter Tryz.func250, Tryz.ntmps250
 go_wp2
 exact bodyPost_ret (v := (.agg #[.int .i64 (-10800000), .int .i64 (10800000)])) (by simp [results, Tryz.results250, go_sem]) rfl ⟨rfl, lay_ex _ _⟩
theorem plc_all (x0 y0 : Int) (w : World) :
  Calls Tryz.prog 194 #[(.agg #[.int .i64 (x0), .int .i64 (y0)])] w fun e w' => e = .returned (.bool (decide (x0 = -10800000 ∧ y0 = 10800000))) ∧ ∃ d, w' = bw w d := by
 by_cases h1 : x0 = -10800000
 ·subst h1
  by_cases h2 : y0 = 10800000
  ·subst h2
   refine lay_start ?_
   go_enter Tryz.func194, Tryz.ntmps194
   go_wp2_with fail
   refine region_bw (by kernel_rfl) (by kernel_rfl) ?_
   repeat (go_big_quiet_step ((first | (go_at_call 250; first | exact bq (plc_every _) (fun d => lay_join _ _ _ d) | exact bq (plc_every _) (fun d => ⟨d, rfl⟩)))))
   refine wpQuiet_nil ?_
   rintro w' ⟨d, rfl⟩
   rw [lay_bw]
   go_wp2_with fail
   go_ret
   exact ⟨ret_bool (by simp), lay_ex _ _⟩
  ·have e2 : (y0 == 10800000) = false := beq_eq_false_iff_ne.2 h2
   refine lay_start ?_
   go_enter Tryz.func194, Tryz.ntmps194
   go_wp2_with fail
   refine region_bw (by kernel_rfl) (by kernel_rfl) ?_
   repeat (go_big_quiet_step ((first | (go_at_call 250; first | exact bq (plc_every _) (fun d => lay_join _ _ _ d) | exact bq (plc_every _) (fun d => ⟨d, rfl⟩)))))
   refine wpQuiet_nil ?_
   rintro w' ⟨d, rfl⟩
   rw [lay_bw]
   go_wp2_with fail
   go_ret
   exact ⟨ret_bool (by simp [h2]), lay_ex _ _⟩
 ·have e1 : (x0 == -10800000) = false := beq_eq_false_iff_ne.2 h1
  refine lay_start ?_
  go_enter Tryz.func194, Tryz.ntmps194
  go_wp2_with fail
  refine region_bw (by kernel_rfl) (by kernel_rfl) ?_
  repeat (go_big_quiet_step ((first | (go_at_call 250; first | exact bq (plc_every _) (fun d => lay_join _ _ _ d) | exact bq (plc_every _) (fun d => ⟨d, rfl⟩)))))
  refine wpQuiet_nil ?_
  rintro w' ⟨d, rfl⟩
  rw [lay_bw]
  go_wp2_with fail
  go_ret
  exact ⟨ret_bool (by simp [h1]), lay_ex _ _⟩
theorem plc_lon (x y : Int) (w : World) :
  Calls Tryz.prog 111 #[(.agg #[.int .i64 (x), .int .i64 (y)])] w fun e w' => e = .returned (.bool (lonW x y)) ∧ ∃ d, w' = bw w d := by
 have HA := Lib.hid (fun W => plc_all x y W)
 by_cases h : x = -10800000 ∧ y = 10800000
 ·rw [decide_eq_true h] at HA
  have e : lonW x y = true := decide_eq_true (.inl h)
  rw [e]
  clear e h
  refine lay_start ?_
  go_enter Tryz.func111, Tryz.ntmps111
  go_wp2_with (go_at_call 194; refine (HA.out _).mono ?_; rintro e w' ⟨rfl, d1, rfl⟩; rw [lay_bw])
  all_goals go_ret
  all_goals exact ⟨rfl, lay_ex _ _⟩
 ·rw [decide_eq_false h] at HA
  obtain ⟨z, hz⟩ : ∃ z, IntKind.i64.wrap (y - x) = z := ⟨_, rfl⟩
  have e : lonW x y = decide (-10800000 ≤ x ∧ x < 10800000 ∧ x ≤ y ∧ z < 21600000) := by
   unfold lonW
   rw [decide_eq_decide, hz]
   exact ⟨fun g => g.resolve_left h, .inr⟩
  rw [e]
  clear e h
  refine lay_start ?_
  go_enter Tryz.func111, Tryz.ntmps111
  go_wp2_with (go_at_call 194; refine (HA.out _).mono ?_; rintro e w' ⟨rfl, d1, rfl⟩; rw [lay_bw])
  all_goals go_ret
  all_goals exact ⟨ret_bool (by rw [Bool.eq_iff_iff]; simp; try omega), lay_ex _ _⟩
theorem plc_Valid (u v x y : Int) (w : World) :
  Calls Tryz.prog 49 #[(.agg #[.int .i64 (u), .int .i64 (v), .int .i64 (x), .int .i64 (y)])] w fun e w' => e = .returned (.bool (plcW u v x y)) ∧ ∃ d, w' = bw w d := by
 have HA := Lib.hid (fun W => plc_lat u v W)
 have HB := Lib.hid (fun W => plc_lon x y W)
 unfold plcW
 generalize latB u v = p at *
 generalize lonW x y = q at *
 cases p
 all_goals
  refine lay_start ?_
  go_enter Tryz.func49, Tryz.ntmps49
  go_wp2_with (first | (go_at_call 110; refine (HA.out _).mono ?_; rintro e w' ⟨rfl, d1, rfl⟩; rw [lay_bw]) | (go_at_call 111; refine (HB.out _).mono ?_; rintro e w' ⟨rfl, d2, rfl⟩; rw [lay_bw]))
  all_goals go_ret
  all_goals exact ⟨by simp, lay_ex _ _⟩
end Go.Proofs.YtcbicpbbjbkiaaaGreatDoor
namespace Go.Proofs.YtcbicpbbjbkiaaaGreatDoor
open Go.RowKit Go.Shelf Go.Lib

theorem prn_noSemi (lo hi : Int) : ∀ c ∈ prnL lo hi, c ≠ 59 := by
 intro c hc
 unfold prnL at hc
 split at hc
 ·exact txt_noSemi _ c hc
 ·rcases List.mem_append.1 hc with hc | hc
  ·exact txt_noSemi _ c hc
  ·rcases List.mem_append.1 hc with hc | hc
   ·simp only [List.mem_cons, List.not_mem_nil, or_false] at hc
    rcases hc with rfl | rfl | rfl | rfl <;> decide
   ·exact txt_noSemi _ c hc
theorem prn_len {lo hi : Int} (hv : lo ≤ hi) (h0 : -1099511627000 ≤ lo) (h1 : hi ≤ 1099511627000) : (prnL lo hi).length ≤ 100 := by
 obtain ⟨x1, x2, -, -, -⟩ := rnd_wr (n := lo) h0 (by omega)
 obtain ⟨y1, y2, -, -, -⟩ := rnd_wr (n := hi) (by omega) h1
 have l1 := txt_len (n := rndT lo) (by omega) (by omega) (rnd_facts lo).1
 have l2 := txt_len (n := rndT hi) (by omega) (by omega) (rnd_facts hi).1
 unfold prnL
 split
 ·omega
 ·simp only [List.length_append, List.length_cons, List.length_nil]; omega
def plcL (a b c d : Int) : List UInt8 := prnL a b ++ ([59, 32] ++ prnL c d)
theorem plc_cut (a b c d : Int) : Lib.cut (plcL a b c d) [59, 32] = (prnL a b, prnL c d, true) := cut_at (prn_noSemi a b)
def PrA (a b : Int) : Prop := a ≤ b ∧ -1099511627000 ≤ a ∧ b ≤ 1099511627000
theorem plc_PrA {a b c d : Int} (h : plcW a b c d = true) (hd : d ≤ 1000000000000) : PrA a b ∧ PrA c d := by
 unfold plcW at h
 rw [Bool.and_eq_true] at h
 obtain ⟨h1, h2⟩ := h
 have h1 := latB_iff.1 h1
 have h2 := of_decide_eq_true h2
 refine ⟨⟨h1.1, by omega, by omega⟩, ?_⟩
 unfold PrA
 rcases h2 with ⟨rfl, rfl⟩ | ⟨g1, g2, g3, g4⟩
 ·decide
 ·omega
set_option maxHeartbeats 1000000 in
theorem tp_plcPrint (a b c d : Int) (hv : plcW a b c d = true) (hd : d ≤ 1000000000000) (w : World) (hT : TpW w) :
  Calls Tryz.prog 10 #[(.agg #[.int .i64 (a), .int .i64 (b), .int .i64 (c), .int .i64 (d)])] w fun e w' => e = .returned (.tuple #[.string (strB (plcL a b c d)), .int .i64 0]) ∧ ∃ k, w' = bw w k := by
 obtain ⟨⟨p1, p2, p3⟩, q1, q2, q3⟩ := plc_PrA hv hd
 have HV := Lib.hid (fun W => plc_Valid a b c d W)
 rw [hv] at HV
 have HP1 := Lib.hid (fun L => tp_Print a b p1 p2 p3 (lay w L) (hT.lay L))
 have HP2 := Lib.hid (fun L => tp_Print c d q1 q2 q3 (lay w L) (hT.lay L))
 have l1 := prn_len p1 p2 p3
 have l2 := prn_len q1 q2 q3
 have z1 := strB_size (prnL a b)
 have z2 := strB_size (prnL c d)
 have hS : strB (plcL a b c d) = strB (prnL a b) ++ ⟨#[59, 32]⟩ ++ strB (prnL c d) := by
  unfold plcL
  apply ByteArray.ext
  apply Array.ext'
  simp [strB]
 rw [hS]
 have y1 : ¬ 9223372036854775807 < (strB (prnL a b)).size + 2 := by omega
 have y2 : ¬ 9223372036854775807 < (strB (prnL a b)).size + 2 + (strB (prnL c d)).size := by omega
 clear hv hd p1 p2 p3 q1 q2 q3 hT hS l1 l2
 generalize strB (prnL a b) = S1 at *
 generalize strB (prnL c d) = S2 at *
 clear z1 z2
 refine lay_start ?_
 go_enter Tryz.func10, Tryz.ntmps10
 go_wp2_with (first | (go_at_call 49; refine (HV.out _).mono ?_; rintro e w' ⟨rfl, dq, rfl⟩; rw [lay_bw]) | (go_at_call 13; first | ((with_reducible refine (HP1.out _).mono ?_); rintro e w' ⟨rfl, dq, rfl⟩; rw [lay_bw]) | ((with_reducible refine (HP2.out _).mono ?_); rintro e w' ⟨rfl, dq, rfl⟩; rw [lay_bw])))
 exact bodyPost_ret (v := .tuple #[.string (S1 ++ ⟨#[59, 32]⟩ ++ S2), .int .i64 0]) (by simp [results, Tryz.results10, go_sem]) rfl ⟨rfl, lay_ex _ _⟩
end Go.Proofs.YtcbicpbbjbkiaaaGreatDoor
namespace Go.Proofs.YtcbicpbbjbkiaaaGreatDoor
set_option maxHeartbeats 2000000
open Go.RowKit

theorem dip_floor (a b : Int) (w : World) (hb : 1 ≤ b) (h1 : -9223372036854775807 ≤ a) (h2 : a ≤ 9223372036854775807) :
  Calls Tryz.prog 233 #[.int .i64 a, .int .i64 b] w fun e w' => e = .returned (.int .i64 (a / b)) ∧ ∃ d, w' = bw w d := by
 refine lay_start ?_
 go_enter Tryz.func233, Tryz.ntmps233
 go_wp2
 ·go_ret
  refine ⟨ret_int ?_, lay_ex _ _⟩
  rw [IntWalk.wrap64_in]
  ·exact floor_neg hb ‹_›
  ·rw [floor_neg hb ‹_›]; have := ediv_bd hb 9223372036854775807 (by decide) h1 h2; omega
 ·go_ret
  exact ⟨ret_int (floor_pos hb ‹_›), lay_ex _ _⟩
theorem dip_within (n lo hi : Int) (w : World) :
  Calls Tryz.prog 162 #[.int .i64 n, .int .i64 lo, .int .i64 hi] w fun e w' => e = .returned (.bool (decide (lo ≤ n ∧ n ≤ hi))) ∧ w' = w := by
 go_enter Tryz.func162, Tryz.ntmps162
 go_wp2
 all_goals go_ret
 all_goals exact ⟨ret_bool (by rw [Bool.eq_iff_iff]; simp; try omega), rfl⟩
theorem dip_quotient (a b : Int) (w : World) (hb : 1 ≤ b) (h1 : -9000000000000000000 ≤ a) (h2 : a ≤ 9000000000000000000) :
  Calls Tryz.prog 164 #[.int .i64 a, .int .i64 b] w fun e w' => e = .returned ((.agg #[.int .i64 (a / b), .int .i64 (-((-a) / b))])) ∧ ∃ d, w' = bw w d := by
 have k1 := ediv_bd (a := a) hb 9000000000000000000 (by decide) h1 h2
 have k2 := ediv_bd (a := -a) hb 9000000000000000000 (by decide) (by omega) (by omega)
 have HF1 := Lib.hid (fun W => dip_floor a b W hb (by omega) (by omega))
 have HF2 := Lib.hid (fun W => dip_floor (-a) b W hb (by omega) (by omega))
 generalize a / b = X at *
 generalize (-a) / b = Y at *
 have z1 : wrap64 (-a) = -a := by unfold wrap64; omega
 have z2 : wrap64 (-Y) = -Y := by unfold wrap64; omega
 clear k1 k2
 refine lay_start ?_
 go_enter Tryz.func164, Tryz.ntmps164
 go_wp2_with (go_at_call 233; first | ((with_reducible refine (HF1.out _).mono ?_); rintro e w' ⟨rfl, dq, rfl⟩; rw [lay_bw]) | ((with_reducible refine (HF2.out _).mono ?_); rintro e w' ⟨rfl, dq, rfl⟩; rw [lay_bw]))
 exact bodyPost_ret (v := (.agg #[.int .i64 (X), .int .i64 (-Y)])) (by simp [results, Tryz.results164, go_sem]) rfl ⟨rfl, lay_ex _ _⟩
theorem dip_root (f n : Int) (w : World) (hf : 0 ≤ f ∧ f ≤ 1000) (hn : 0 ≤ n ∧ n ≤ 1000000000) :
  Calls Tryz.prog 163 #[.int .i64 f, .int .i64 n] w (ArcIn 2097153 w) := by
 have p1 := tp_prod (x := f) (k := f) (X := 1000) (K := 1000) (by omega) (by omega)
 have p2 := tp_prod (x := f * f) (k := n) (X := 1000000) (K := 1000000000) (by omega) (by omega)
 obtain ⟨F, hF⟩ : ∃ F, F = f * f := ⟨_, rfl⟩
 rw [← hF] at p2
 obtain ⟨G, hG⟩ : ∃ G, G = F * n := ⟨_, rfl⟩
 have z1 : wrap64 (f * f) = F := by rw [hF]; unfold wrap64; omega
 have z2 : wrap64 (F * n) = G := by rw [hG]; unfold wrap64; omega
 clear p1 p2 hF hG
 refine lay_start ?_
 go_enter Tryz.func163, Tryz.ntmps163
 go_wp2_with fail
 go_loop [6, 7] (fun v6 v7 => ∃ x y : Int, 0 ≤ x ∧ x < y ∧ y ≤ 2097152 ∧ v6 = .int .i64 x ∧ v7 = .int .i64 y) (fun v6 v7 => (intOf v7 - intOf v6).toNat)
 case atStart => exact ⟨0, 2097152, by decide, by decide, by decide, rfl, rfl⟩
 case round =>
  obtain ⟨x, y, h1, h2, h3, rfl, rfl⟩ := hrel
  have k1 : wrap64 (y - x) = y - x := by unfold wrap64; omega
  by_cases hg : 1 < y - x
  ·obtain ⟨M, hM⟩ : ∃ M, M = (x + y) / 2 := ⟨_, rfl⟩
   have k2 : wrap64 (x + y) = x + y := by unfold wrap64; omega
   have k3 : (x + y).tdiv 2 = M := by rw [Int.tdiv_eq_ediv_of_nonneg (by omega), hM]
   have k4 : wrap64 M = M := by unfold wrap64; omega
   have p1 := tp_prod (x := M) (k := M) (X := 2097152) (K := 2097152) (by omega) (by omega)
   obtain ⟨S, hS⟩ : ∃ S, S = M * M := ⟨_, rfl⟩
   have k5 : wrap64 (M * M) = S := by rw [hS]; rw [← hS] at p1; unfold wrap64; omega
   have HM : Hid (x < M ∧ M < y) := Lib.hid (by omega)
   clear hM p1 hS
   go_wp2_with fail
   ·rw [k4]
    obtain ⟨m1, m2⟩ := HM.out
    exact ⟨⟨M, y, by omega, by omega, by omega, rfl, rfl⟩, by simp only [intOf]; omega⟩
   ·rw [k4]
    obtain ⟨m1, m2⟩ := HM.out
    exact ⟨⟨x, M, by omega, by omega, by omega, rfl, rfl⟩, by simp only [intOf]; omega⟩
  ·obtain rfl : y = x + 1 := by omega
   have p1 := tp_prod (x := x) (k := x) (X := 2097152) (K := 2097152) (by omega) (by omega)
   obtain ⟨S, hS⟩ : ∃ S, S = x * x := ⟨_, rfl⟩
   have k5 : wrap64 (x * x) = S := by rw [hS]; rw [← hS] at p1; unfold wrap64; omega
   have k6 : wrap64 (x + 1) = x + 1 := by unfold wrap64; omega
   have HX : Hid (0 ≤ x ∧ x < 2097152) := Lib.hid (by omega)
   clear p1 hS
   go_wp2_with fail
   ·exact bodyPost_ret (v := (.agg #[.int .i64 (x), .int .i64 (x + 1)])) (by simp [results, Tryz.results163, go_sem]) rfl ⟨⟨x, x + 1, by have := HX.out; omega, by have := HX.out; omega, rfl⟩, lay_ex _ _⟩
   ·exact bodyPost_ret (v := (.agg #[.int .i64 (x), .int .i64 (x)])) (by simp [results, Tryz.results163, go_sem]) rfl ⟨⟨x, x, by have := HX.out; omega, by have := HX.out; omega, rfl⟩, lay_ex _ _⟩
theorem dip_Dip (n : Int) (w : World) :
  Calls Tryz.prog 89 #[.int .i64 n] w (ArcE 2097153 w) := by
 have HW := Lib.hid (fun W => dip_within n 0 10000 W)
 by_cases hn : 0 ≤ n ∧ n ≤ 10000
 ·rw [decide_eq_true hn] at HW
  have HR := Lib.hid (fun W => dip_root 176 n W (by decide) (by omega))
  clear hn
  refine lay_start ?_
  go_enter Tryz.func89, Tryz.ntmps89
  go_wp2_with (go_at_call 162; refine (HW.out _).mono ?_; rintro e w' ⟨rfl, rfl⟩)
  refine (HR.out _).mono ?_
  rintro e w' ⟨⟨x, y, hx, hy, rfl⟩, d, rfl⟩
  rw [lay_bw]
  have HX := Lib.hid hx
  have HY := Lib.hid hy
  clear hx hy
  go_wp2_with fail
  exact bodyPost_ret (v := .tuple #[(.agg #[.int .i64 (x), .int .i64 (y)]), .int .i64 0]) (by simp [results, Tryz.results89, go_sem]) rfl ⟨⟨x, y, 0, fun _ => ⟨HX.out, HY.out⟩, by decide, fun h => absurd rfl h, rfl⟩, lay_ex _ _⟩
 ·rw [decide_eq_false hn] at HW
  clear hn
  refine lay_start ?_
  go_enter Tryz.func89, Tryz.ntmps89
  go_wp2_with (go_at_call 162; refine (HW.out _).mono ?_; rintro e w' ⟨rfl, rfl⟩)
  exact bodyPost_ret (v := .tuple #[(.agg #[.int .i64 (0), .int .i64 (0)]), .int .i64 2]) (by simp [results, Tryz.results89, go_sem]) rfl ⟨⟨0, 0, 2, by decide, by decide, fun _ => ⟨rfl, rfl⟩, rfl⟩, lay_ex _ _⟩
theorem dip_Short (n s : Int) (w : World) :
  Calls Tryz.prog 90 #[.int .i64 n, .int .i64 s] w (ArcE 90000000000 w) := by
 have HW := Lib.hid (fun W => dip_within n 0 10000 W)
 have HV := Lib.hid (fun W => dip_within s 1 100000 W)
 by_cases hn : 0 ≤ n ∧ n ≤ 10000
 ·rw [decide_eq_true hn] at HW
  by_cases hs : 1 ≤ s ∧ s ≤ 100000
  ·rw [decide_eq_true hs] at HV
   have p1 := tp_prod (x := s) (k := s) (X := 100000) (K := 100000) (by omega) (by omega)
   have q1 := Int.mul_nonneg (show 0 ≤ s by omega) (show 0 ≤ s by omega)
   obtain ⟨Q, hQ⟩ : ∃ Q, Q = 131953 * s * s := ⟨_, rfl⟩
   have hQ2 : Q = 131953 * (s * s) := by rw [hQ, Int.mul_assoc]
   have y1 : wrap64 (131953 * s) = 131953 * s := by unfold wrap64; omega
   have y2 : wrap64 (131953 * s * s) = Q := by rw [← hQ, hQ2]; unfold wrap64; omega
   have y3 : wrap64 (5893750000 * n) = 5893750000 * n := by unfold wrap64; omega
   obtain ⟨T, hT⟩ : ∃ T, T = Q + 5893750000 * n := ⟨_, rfl⟩
   have y4 : wrap64 (Q + 5893750000 * n) = T := by rw [hT]; unfold wrap64; omega
   have y5 : wrap64 (317500 * s) = 317500 * s := by unfold wrap64; omega
   have hTb : -9000000000000000000 ≤ T ∧ T ≤ 9000000000000000000 ∧ 0 ≤ T ∧ T ≤ 10000000000000000 := by omega
   have hD : 1 ≤ 317500 * s := by omega
   have HQt := Lib.hid (fun W => dip_quotient T (317500 * s) W hD (by omega) (by omega))
   have r1 : 0 ≤ T / (317500 * s) ∧ T / (317500 * s) ≤ 80000000000 := by
    refine ⟨Int.ediv_nonneg (by omega) (by omega), ?_⟩
    have := Int.ediv_le_of_le_mul (a := T) (b := 80000000000) (c := 317500 * s) (by omega) (by omega)
    exact this
   have r2 : -80000000000 ≤ (-T) / (317500 * s) ∧ (-T) / (317500 * s) ≤ 0 := by
    refine ⟨(Int.le_ediv_iff_mul_le (by omega)).2 (by omega), ?_⟩
    have := Int.ediv_le_of_le_mul (a := -T) (b := 0) (c := 317500 * s) (by omega) (by omega)
    exact this
   obtain ⟨X, hX⟩ : ∃ X, X = T / (317500 * s) := ⟨_, rfl⟩
   obtain ⟨Y, hY⟩ : ∃ Y, Y = (-T) / (317500 * s) := ⟨_, rfl⟩
   rw [← hX] at HQt r1
   rw [← hY] at HQt r2
   have HX := Lib.hid r1
   have HY := Lib.hid r2
   clear p1 q1 hQ hQ2 hT hTb hX hY r1 r2 hn hs
   refine lay_start ?_
   go_enter Tryz.func90, Tryz.ntmps90
   go_wp2_with (first | (go_at_call 162; first | ((with_reducible refine (HW.out _).mono ?_); rintro e w' ⟨rfl, rfl⟩) | ((with_reducible refine (HV.out _).mono ?_); rintro e w' ⟨rfl, rfl⟩)) | (go_at_call 164; refine (HQt.out _).mono ?_; rintro e w' ⟨rfl, dq, rfl⟩; rw [lay_bw]))
   exact bodyPost_ret (v := .tuple #[(.agg #[.int .i64 (X), .int .i64 (-Y)]), .int .i64 0]) (by simp [results, Tryz.results90, go_sem]) rfl ⟨⟨X, -Y, 0, fun _ => by have := HX.out; have := HY.out; omega, by decide, fun h => absurd rfl h, rfl⟩, lay_ex _ _⟩
  ·rw [decide_eq_false hs] at HV
   clear hn hs
   refine lay_start ?_
   go_enter Tryz.func90, Tryz.ntmps90
   go_wp2_with (go_at_call 162; first | ((with_reducible refine (HW.out _).mono ?_); rintro e w' ⟨rfl, rfl⟩) | ((with_reducible refine (HV.out _).mono ?_); rintro e w' ⟨rfl, rfl⟩))
   exact bodyPost_ret (v := .tuple #[(.agg #[.int .i64 (0), .int .i64 (0)]), .int .i64 2]) (by simp [results, Tryz.results90, go_sem]) rfl ⟨⟨0, 0, 2, by decide, by decide, fun _ => ⟨rfl, rfl⟩, rfl⟩, lay_ex _ _⟩
 ·rw [decide_eq_false hn] at HW
  clear hn
  refine lay_start ?_
  go_enter Tryz.func90, Tryz.ntmps90
  go_wp2_with (go_at_call 162; refine (HW.out _).mono ?_; rintro e w' ⟨rfl, rfl⟩)
  exact bodyPost_ret (v := .tuple #[(.agg #[.int .i64 (0), .int .i64 (0)]), .int .i64 2]) (by simp [results, Tryz.results90, go_sem]) rfl ⟨⟨0, 0, 2, by decide, by decide, fun _ => ⟨rfl, rfl⟩, rfl⟩, lay_ex _ _⟩
end Go.Proofs.YtcbicpbbjbkiaaaGreatDoor
namespace Go.Proofs.YtcbicpbbjbkiaaaGreatDoor
open Go.RowKit

def kpE (k e : Int) : Int := if k = 0 then e else k
theorem kpE_z (e : Int) : kpE 0 e = e := rfl
theorem kpE_n {k e : Int} (h : k ≠ 0) : kpE k e = k := if_neg h
theorem kpE_0 (k : Int) : kpE k 0 = k := by unfold kpE; split <;> omega
theorem kpE_iff {k e : Int} : kpE k e = 0 ↔ k = 0 ∧ e = 0 := by unfold kpE; split <;> omega
theorem kpE_def (k e : Int) : (if k = 0 then e else k) = kpE k e := rfl
structure ChK (b : Nat) (k : Int) (W : World) : Prop where
 lt : b < W.heap.size
 cell : W.cell? ⟨b, 0, none⟩ = some (.int .i64 k)
 froz : W.frozen? ⟨b, 0, none⟩ = false
theorem ChK.lay {b : Nat} {k : Int} {W : World} (h : ChK b k W) (L : List (Obj ⊕ Ext)) : ChK b k (lay W L) := by
 have hb := lay_extends W L
 exact ⟨Nat.lt_of_lt_of_le h.lt hb.size, (hb.cell (p := ⟨b, 0, none⟩) h.lt).trans h.cell, (hb.frozen (p := ⟨b, 0, none⟩) h.lt).trans h.froz⟩
theorem cor_arcO (b : Nat) (k x y e : Int) (w : World) (h : ChK b k w) (L : List (Obj ⊕ Ext)) :
  Calls Tryz.prog 24 #[.pointer (some ⟨b, 0, none⟩), (.agg #[.int .i64 (x), .int .i64 (y)]), .int .i64 e] (lay w L) fun en w' => en = .returned ((.agg #[.int .i64 (x), .int .i64 (y)])) ∧ ∃ d, w' = lay (w.setCell ⟨b, 0, none⟩ (.int .i64 (kpE k e))) (.inr d :: L) := by
 have g := h.lay L
 refine (cor_arc b x y e k _ g.lt g.cell g.froz).mono ?_
 rintro en w' ⟨h1, d, h2⟩
 exact ⟨h1, d, by rw [h2, kpE_def, lay_setOld h.lt]; rfl⟩
attribute [irreducible] kpE
set_option maxHeartbeats 2000000 in
theorem cor_dep (b : Nat) (k : Int) (s : ByteArray) (lm t0 t1 hs by_ hz ey sh tp pr : Int) (w : World) (hk : ChK b k w) :
  Calls Tryz.prog 28 #[.pointer (some ⟨b, 0, none⟩), .agg #[.string s, .int .i64 lm, .int .i64 t0, .int .i64 t1, .int .i64 hs, .int .i64 by_, .int .i64 hz, .int .i64 ey, .int .i64 sh, .int .i64 tp, .int .i64 pr]] w fun en w' =>
   ∃ x y e : Int, (e = 0 → Wi 90000000000 x ∧ Wi 90000000000 y) ∧ (0 ≤ e ∧ e ≤ 100) ∧ en = .returned ((.agg #[.int .i64 (x), .int .i64 (y)])) ∧ ∃ d, w' = bw (w.setCell ⟨b, 0, none⟩ (.int .i64 (kpE k e))) d := by
 have HA := Lib.hid (fun x y e L => cor_arcO b k x y e w hk L)
 have hp := fun v => posn_set w ⟨b, 0, none⟩ v
 by_cases h1 : hz = 1
 ·subst h1
  have HD := Lib.hid (fun W => dip_Dip ey W)
  clear hk
  refine lay_start ?_
  go_enter Tryz.func28, Tryz.ntmps28
  go_wp2_with fail
  refine (HD.out _).mono ?_
  rintro en w' ⟨⟨x, y, e, he, he2, he3, rfl⟩, d, rfl⟩
  rw [lay_bw]
  have HE := Lib.hid he
  have HE2 := Lib.hid he2
  clear he he2 he3
  go_wp2_with fail
  refine (HA.out _ _ _ _).mono ?_
  rintro en w' ⟨rfl, d2, rfl⟩
  rw [hp (.int .i64 (kpE k e))]
  obtain ⟨w2, hw2⟩ : ∃ w2, w2 = w.setCell ⟨b, 0, none⟩ (.int .i64 (kpE k e)) := ⟨_, rfl⟩
  rw [← hw2]
  have HW2 := Lib.hid hw2
  clear hp hw2
  go_wp2_with fail
  exact bodyPost_ret (v := (.agg #[.int .i64 (x), .int .i64 (y)])) (by simp [results, Tryz.results28, go_sem]) rfl ⟨x, y, e, fun h => by have := HE.out h; unfold Wi; omega, HE2.out, rfl, by rw [← HW2.out]; exact lay_ex _ _⟩
 ·by_cases h3 : hz = 3
  ·subst h3
   have HD := Lib.hid (fun W => dip_Short ey sh W)
   clear hk
   refine lay_start ?_
   go_enter Tryz.func28, Tryz.ntmps28
   go_wp2_with fail
   refine (HD.out _).mono ?_
   rintro en w' ⟨⟨x, y, e, he, he2, he3, rfl⟩, d, rfl⟩
   rw [lay_bw]
   have HE := Lib.hid he
   have HE2 := Lib.hid he2
   clear he he2 he3
   go_wp2_with fail
   refine (HA.out _ _ _ _).mono ?_
   rintro en w' ⟨rfl, d2, rfl⟩
   rw [hp (.int .i64 (kpE k e))]
   obtain ⟨w2, hw2⟩ : ∃ w2, w2 = w.setCell ⟨b, 0, none⟩ (.int .i64 (kpE k e)) := ⟨_, rfl⟩
   rw [← hw2]
   have HW2 := Lib.hid hw2
   clear hp hw2
   go_wp2_with fail
   exact bodyPost_ret (v := (.agg #[.int .i64 (x), .int .i64 (y)])) (by simp [results, Tryz.results28, go_sem]) rfl ⟨x, y, e, fun h => by have := HE.out h; unfold Wi; omega, HE2.out, rfl, by rw [← HW2.out]; exact lay_ex _ _⟩
  ·have e1 : (hz == 1) = false := beq_eq_false_iff_ne.2 h1
   have e3 : (hz == 3) = false := beq_eq_false_iff_ne.2 h3
   have HS : Hid (w.setCell ⟨b, 0, none⟩ (.int .i64 (kpE k 0)) = w) := Lib.hid (by rw [kpE_0]; exact set_same hk.cell)
   clear hk hp
   refine lay_start ?_
   go_enter Tryz.func28, Tryz.ntmps28
   go_wp2_with fail
   exact bodyPost_ret (v := (.agg #[.int .i64 (0), .int .i64 (0)])) (by simp [results, Tryz.results28, go_sem]) rfl ⟨0, 0, 0, fun _ => by unfold Wi; omega, by decide, rfl, by rw [HS.out]; exact lay_ex _ _⟩
theorem cor_ceil (n : Int) (h : -1000000000000 ≤ n ∧ n ≤ 1000000000000) (w : World) :
  Calls Tryz.prog 27 #[.int .i64 n] w fun e w' => e = .returned (.int .i64 (-((-n) / 2))) ∧ ∃ d, w' = bw w d := by
 have y1 : wrap64 (-n) = -n := by unfold wrap64; omega
 have y2 : wrap64 (-((-n) / 2)) = -((-n) / 2) := by unfold wrap64; omega
 refine lay_start ?_
 go_enter Tryz.func27, Tryz.ntmps27
 go_wp2_with fail
 exact bodyPost_ret (v := .int .i64 (-((-n) / 2))) (by simp [results, Tryz.results27, go_sem]) rfl ⟨rfl, lay_ex _ _⟩
theorem cor_possible (w : World) :
  Calls Tryz.prog 31 #[] w fun e w' => e = .returned ((.agg #[.int .i64 (-60000), .int .i64 (5400000)])) ∧ ∃ d, w' = bw w d := by
 refine lay_start ?_
 go_enter Tryz.func31, Tryz.ntmps31
 go_wp2_with fail
 exact bodyPost_ret (v := (.agg #[.int .i64 (-60000), .int .i64 (5400000)])) (by simp [results, Tryz.results31, go_sem]) rfl ⟨rfl, lay_ex _ _⟩
structure UpK (b c : Nat) (k : Int) (w : World) : Prop where
 ch : ChK b k w
 ne : c ≠ b
 lt : c < w.heap.size
 cell : ∀ i, i < 14 → ∃ n : Int, w.cell? ⟨c, i, none⟩ = some (.int .i64 n)
 froz : ∀ i, w.frozen? ⟨c, i, none⟩ = false
theorem UpK.chSet {b c : Nat} {k : Int} {w : World} (h : UpK b c k w) (e : Int) : UpK b c e (w.setCell ⟨b, 0, none⟩ (.int .i64 e)) := by
 refine ⟨⟨by rw [World.size_setCell]; exact h.ch.lt, World.cell?_setCell_same _ _ _ h.ch.cell, by rw [World.frozen?_setCell]; exact h.ch.froz⟩, h.ne, by rw [World.size_setCell]; exact h.lt, fun i hi => ?_, fun i => by rw [World.frozen?_setCell]; exact h.froz i⟩
 obtain ⟨n, hn⟩ := h.cell i hi
 exact ⟨n, (World.cell?_setCell_other _ _ _ _ (fun e2 => h.ne (by have := congrArg Addr.block e2; simpa using this.symm))).trans hn⟩
theorem UpK.wkSet {b c : Nat} {k : Int} {w : World} (h : UpK b c k w) {i : Nat} (hi : i < 14) (x : Int) : UpK b c k (w.setCell ⟨c, i, none⟩ (.int .i64 x)) := by
 refine ⟨⟨by rw [World.size_setCell]; exact h.ch.lt, (World.cell?_setCell_other _ _ _ _ (fun e2 => h.ne (by have := congrArg Addr.block e2; simpa using this))).trans h.ch.cell, by rw [World.frozen?_setCell]; exact h.ch.froz⟩, h.ne, by rw [World.size_setCell]; exact h.lt, fun j hj => ?_, fun j => by rw [World.frozen?_setCell]; exact h.froz j⟩
 obtain ⟨n, hn⟩ := h.cell j hj
 by_cases hij : j = i
 ·subst hij
  exact ⟨x, World.cell?_setCell_same _ _ _ hn⟩
 ·exact ⟨n, (World.cell?_setCell_other _ _ _ _ (fun e2 => hij (by have := congrArg Addr.off e2; simpa using this.symm))).trans hn⟩
theorem UpK.chOther {b c : Nat} {k : Int} {w : World} (h : UpK b c k w) (e : Value) {j : Nat} {v : Value} (hv : w.cell? ⟨c, j, none⟩ = some v) : (w.setCell ⟨b, 0, none⟩ e).cell? ⟨c, j, none⟩ = some v :=
 (World.cell?_setCell_other _ _ _ _ (fun e2 => h.ne (by have := congrArg Addr.block e2; simpa using this.symm))).trans hv
theorem cell_other {w : World} {c i j : Nat} {u v : Value} (hij : j ≠ i) (hv : w.cell? ⟨c, j, none⟩ = some v) : (w.setCell ⟨c, i, none⟩ u).cell? ⟨c, j, none⟩ = some v :=
 (World.cell?_setCell_other _ _ _ _ (fun e2 => hij (by have := congrArg Addr.off e2; simpa using this.symm))).trans hv
theorem kpE_bd {k e : Int} : (0 ≤ k → 0 ≤ e → 0 ≤ kpE k e) ∧ (k ≤ 100 → e ≤ 100 → kpE k e ≤ 100) := by
 by_cases h : k = 0
 ·subst h; rw [kpE_z]; omega
 ·rw [kpE_n h]; omega
structure UpS (b c : Nat) (k e x y : Int) (i : Nat) (w wa wb wc : World) : Prop where
 ea : wa = w.setCell ⟨b, 0, none⟩ (.int .i64 (kpE k e))
 eb : ∀ L, (lay wa L).setCell ⟨c, i, none⟩ (.int .i64 x) = lay wb L
 ec : ∀ L, (lay wb L).setCell ⟨c, i + 1, none⟩ (.int .i64 y) = lay wc L
 la : c < wa.heap.size
 lb : c < wb.heap.size
 ca : ∃ n : Int, wa.cell? ⟨c, i, none⟩ = some (.int .i64 n)
 ca1 : ∃ n : Int, wa.cell? ⟨c, i + 1, none⟩ = some (.int .i64 n)
 cb : ∃ n : Int, wb.cell? ⟨c, i + 1, none⟩ = some (.int .i64 n)
 fa : ∀ j, wa.frozen? ⟨c, j, none⟩ = false
 fb : ∀ j, wb.frozen? ⟨c, j, none⟩ = false
 ps : posn w = posn wc
 dn : UpK b c (kpE k e) wc
 ot : ∀ (j : Nat) (v : Value), j ≠ i → j ≠ i + 1 → w.cell? ⟨c, j, none⟩ = some v → wc.cell? ⟨c, j, none⟩ = some v
 df : wc = ((w.setCell ⟨b, 0, none⟩ (.int .i64 (kpE k e))).setCell ⟨c, i, none⟩ (.int .i64 x)).setCell ⟨c, i + 1, none⟩ (.int .i64 y)
theorem UpK.step {b c : Nat} {k : Int} {w : World} (h : UpK b c k w) (e x y : Int) {i : Nat} (hi : i + 1 < 14) : ∃ wa wb wc, UpS b c k e x y i w wa wb wc := by
 have h1 := h.chSet (kpE k e)
 have h2 := h1.wkSet (i := i) (by omega) x
 have h3 := h2.wkSet (i := i + 1) hi y
 refine ⟨_, _, _, rfl, fun L => lay_setOld h1.lt L, fun L => lay_setOld h2.lt L, h1.lt, h2.lt, h1.cell i (by omega), h1.cell (i + 1) hi, h2.cell (i + 1) hi, h1.froz, h2.froz, ?_, h3, fun j v j1 j2 hv => cell_other j2 (cell_other j1 (h.chOther _ hv)), rfl⟩
 rw [← posn_set, ← posn_set, ← posn_set]
def upW (w : World) (b c : Nat) (k1 r0 r1 k2 p0 p1 k3 k4 s0 s1 : Int) : World :=
 (((((((((w.setCell ⟨b, 0, none⟩ (.int .i64 k1)).setCell ⟨c, 4, none⟩ (.int .i64 r0)).setCell ⟨c, 5, none⟩ (.int .i64 r1)).setCell ⟨b, 0, none⟩ (.int .i64 k2)).setCell ⟨c, 6, none⟩ (.int .i64 p0)).setCell ⟨c, 7, none⟩ (.int .i64 p1)).setCell ⟨b, 0, none⟩ (.int .i64 k3)).setCell ⟨b, 0, none⟩ (.int .i64 k4)).setCell ⟨c, 8, none⟩ (.int .i64 s0)).setCell ⟨c, 9, none⟩ (.int .i64 s1)
def UpP (b c : Nat) (k : Int) (w : World) (en : Ending) (w' : World) : Prop := ∃ k1 r0 r1 k2 p0 p1 k3 k4 s0 s1 : Int, (k4 = 0 → k = 0 ∧ (Wi 5000000000 r0 ∧ Wi 5000000000 r1) ∧ (Wi 200000 p0 ∧ Wi 200000 p1) ∧ (Wi 400000 s0 ∧ Wi 400000 s1)) ∧ (0 ≤ k → 0 ≤ k4) ∧ (k ≤ 100 → k4 ≤ 100) ∧ en = .returned (.tuple #[]) ∧ ∃ d, w' = bw (upW w b c k1 r0 r1 k2 p0 p1 k3 k4 s0 s1) d
theorem UpK.keep {b c : Nat} {k : Int} {w : World} (h : UpK b c k w) : w.setCell ⟨b, 0, none⟩ (.int .i64 k) = w := set_same h.ch.cell
set_option maxHeartbeats 4000000 in
set_option maxRecDepth 100000 in
theorem cor_up (b c : Nat) (k : Int) (s : ByteArray) (lm t0 t1 hs by_ hz ey sh tp pr g0 g1 c0 c1 m0 m1 p0 p1 a0 a1 : Int) (w : World) (hk : UpK b c k w) (h8 : w.cell? ⟨c, 8, none⟩ = some (.int .i64 0)) (h9 : w.cell? ⟨c, 9, none⟩ = some (.int .i64 0))
  (hm : smB m0 m1 = true) (hp : smB p0 p1 = true) (ha : -60000 ≤ a0 ∧ a0 ≤ a1 ∧ a1 ≤ 5400000) :
  Calls Tryz.prog 32 #[.pointer (some ⟨b, 0, none⟩), .pointer (some ⟨c, 0, none⟩), .agg #[.string s, .int .i64 lm, .int .i64 t0, .int .i64 t1, .int .i64 hs, .int .i64 by_, .int .i64 hz, .int .i64 ey, .int .i64 sh, .int .i64 tp, .int .i64 pr], .agg #[.int .i64 g0, .int .i64 g1, .int .i64 c0, .int .i64 c1, .int .i64 m0, .int .i64 m1, .int .i64 p0, .int .i64 p1], (.agg #[.int .i64 (a0), .int .i64 (a1)])] w (UpP b c k w) := by
 have hm' := smB_iff.1 hm
 have hp' := smB_iff.1 hp
 have HR := Lib.hid (fun W => ref_At a0 a1 tp pr W)
 have HI := Lib.hid (fun W => px_InAltitude p0 p1 a0 a1 (smlB_iff.2 (by omega)) (altB_iff.2 (by omega)) W)
 have HU := Lib.hid (fun W => px_Augmented m0 m1 p0 p1 a0 a1 (smlB_iff.2 (by omega)) (smlB_iff.2 (by omega)) (altB_iff.2 (by omega)) W)
 clear hm hp ha hm' hp'
 have HK := Lib.hid hk
 have H89 := Lib.hid (And.intro h8 h9)
 clear h8 h9
 refine lay_start ?_
 go_enter Tryz.func32, Tryz.ntmps32
 go_wp2_with fail
 refine (HR.out _).mono ?_
 rintro en w' ⟨⟨r0, r1, e1, hr, he1, -, rfl⟩, d1, rfl⟩
 rw [lay_bw]
 have HE1 := Lib.hid (And.intro hr he1)
 clear hr he1
 go_wp2_with fail
 refine (cor_arcO b k r0 r1 e1 w HK.out.ch _).mono ?_
 rintro en w' ⟨rfl, d2, rfl⟩
 obtain ⟨wa1, wb1, w2, ST⟩ := HK.out.step e1 r0 r1 (i := 4) (by decide)
 rw [← ST.ea, ST.ps]
 obtain ⟨n1, n1c⟩ := ST.ca
 obtain ⟨n2, n2c⟩ := ST.ca1
 obtain ⟨n3, n3c⟩ := ST.cb
 have la := ST.la
 have lb := ST.lb
 have fa := ST.fa
 have fb := ST.fb
 have sa := ST.eb
 have sb := ST.ec
 have HS1 := Lib.hid ST
 have HK2 := Lib.hid ST.dn
 clear ST
 go_wp2_with fail
 clear n1c n2c n3c la lb fa fb sa sb
 refine (HI.out _).mono ?_
 rintro en w' ⟨⟨q0, q1, e2, hr, he1, -, rfl⟩, d3, rfl⟩
 rw [lay_bw]
 have HE2 := Lib.hid (And.intro hr he1)
 clear hr he1
 go_wp2_with fail
 refine (cor_arcO b (kpE k e1) q0 q1 e2 w2 HK2.out.ch _).mono ?_
 rintro en w' ⟨rfl, d4, rfl⟩
 obtain ⟨wa2, wb2, w3, ST⟩ := HK2.out.step e2 q0 q1 (i := 6) (by decide)
 rw [← ST.ea, ST.ps]
 obtain ⟨n1, n1c⟩ := ST.ca
 obtain ⟨n2, n2c⟩ := ST.ca1
 obtain ⟨n3, n3c⟩ := ST.cb
 have la := ST.la
 have lb := ST.lb
 have fa := ST.fa
 have fb := ST.fb
 have sa := ST.eb
 have sb := ST.ec
 have HS2 := Lib.hid ST
 have HK3 := Lib.hid ST.dn
 clear ST
 go_wp2_with fail
 clear n1c n2c n3c la lb fa fb sa sb
 refine (HU.out _).mono ?_
 rintro en w' ⟨⟨s0, s1, e3, hr, he1, -, rfl⟩, d5, rfl⟩
 rw [lay_bw]
 have HE3 := Lib.hid (And.intro hr he1)
 clear hr he1
 go_wp2_with fail
 refine (cor_arcO b (kpE (kpE k e1) e2) s0 s1 e3 w3 HK3.out.ch _).mono ?_
 rintro en w' ⟨rfl, d6, rfl⟩
 have HP3 : Hid (posn w3 = posn (w3.setCell ⟨b, 0, none⟩ (.int .i64 (kpE (kpE (kpE k e1) e2) e3)))) := Lib.hid (posn_set _ _ _)
 rw [HP3.out]
 have HK4 := Lib.hid (HK3.out.chSet (kpE (kpE (kpE k e1) e2) e3))
 obtain ⟨w4, hw4⟩ : ∃ w4, w4 = w3.setCell ⟨b, 0, none⟩ (.int .i64 (kpE (kpE (kpE k e1) e2) e3)) := ⟨_, rfl⟩
 rw [← hw4] at HK4 ⊢
 have HW4 := Lib.hid hw4
 clear hw4 HP3
 by_cases l2 : lm = 2
 ·subst l2
  obtain ⟨wa3, wb3, w5, ST⟩ := HK4.out.step 0 s0 s1 (i := 8) (by decide)
  have hwa : wa3 = w4 := by rw [ST.ea, kpE_0]; exact HK4.out.keep
  subst hwa
  obtain ⟨n1, n1c⟩ := ST.ca
  obtain ⟨n2, n2c⟩ := ST.ca1
  obtain ⟨n3, n3c⟩ := ST.cb
  have la := ST.la
  have lb := ST.lb
  have fa := ST.fa
  have fb := ST.fb
  have sa := ST.eb
  have sb := ST.ec
  have HS4 := Lib.hid ST
  clear ST
  go_wp2_with fail
  refine bodyPost_end (v := .tuple #[]) (results_none rfl _ _ _) rfl ⟨kpE k e1, r0, r1, kpE (kpE k e1) e2, q0, q1, kpE (kpE (kpE k e1) e2) e3, kpE (kpE (kpE (kpE k e1) e2) e3) 0, s0, s1, fun h => ?_, fun h => ?_, fun h => ?_, rfl, ?_⟩
  ·rw [kpE_0, kpE_iff, kpE_iff, kpE_iff] at h
   exact ⟨h.1.1.1, HE1.out.1 h.1.1.2, HE2.out.1 h.1.2, HE3.out.1 h.2⟩
  ·exact kpE_bd.1 (kpE_bd.1 (kpE_bd.1 (kpE_bd.1 h HE1.out.2.1) HE2.out.2.1) HE3.out.2.1) (by decide)
  ·exact kpE_bd.2 (kpE_bd.2 (kpE_bd.2 (kpE_bd.2 h HE1.out.2.2) HE2.out.2.2) HE3.out.2.2) (by decide)
  ·have E1 := HS1.out.df
   have E2 := HS2.out.df
   have E3 := HW4.out
   have E4 := HS4.out.df
   unfold upW
   rw [← E1, ← E2, ← E3, ← E4]
   exact lay_ex _ _
 ·by_cases l3 : lm = 3
  ·subst l3
   go_wp2_with fail
   refine (ang_NegA s0 s1 _).mono ?_
   rintro en w' ⟨⟨u0, u1, e4, hr, he1, -, rfl⟩, d7, rfl⟩
   rw [lay_bw]
   have HE4 := Lib.hid (And.intro hr he1)
   clear hr he1
   go_wp2_with fail
   refine (cor_arcO b _ u0 u1 e4 _ HK4.out.ch _).mono ?_
   rintro en w' ⟨rfl, d8, rfl⟩
   obtain ⟨wa3, wb3, w5, ST⟩ := HK4.out.step e4 u0 u1 (i := 8) (by decide)
   rw [← ST.ea, ST.ps]
   obtain ⟨n1, n1c⟩ := ST.ca
   obtain ⟨n2, n2c⟩ := ST.ca1
   obtain ⟨n3, n3c⟩ := ST.cb
   have la := ST.la
   have lb := ST.lb
   have fa := ST.fa
   have fb := ST.fb
   have sa := ST.eb
   have sb := ST.ec
   have HS4 := Lib.hid ST
   clear ST
   go_wp2_with fail
   refine bodyPost_end (v := .tuple #[]) (results_none rfl _ _ _) rfl ⟨kpE k e1, r0, r1, kpE (kpE k e1) e2, q0, q1, kpE (kpE (kpE k e1) e2) e3, kpE (kpE (kpE (kpE k e1) e2) e3) e4, u0, u1, fun h => ?_, fun h => ?_, fun h => ?_, rfl, ?_⟩
   ·rw [kpE_iff, kpE_iff, kpE_iff, kpE_iff] at h
    obtain ⟨b0, b1⟩ := HE3.out.1 h.1.2
    obtain ⟨-, rfl, rfl, -, -⟩ := HE4.out.1 h.2
    exact ⟨h.1.1.1.1, HE1.out.1 h.1.1.1.2, HE2.out.1 h.1.1.2, by unfold Wi; omega, by unfold Wi; omega⟩
   ·exact kpE_bd.1 (kpE_bd.1 (kpE_bd.1 (kpE_bd.1 h HE1.out.2.1) HE2.out.2.1) HE3.out.2.1) HE4.out.2.1
   ·exact kpE_bd.2 (kpE_bd.2 (kpE_bd.2 (kpE_bd.2 h HE1.out.2.2) HE2.out.2.2) HE3.out.2.2) HE4.out.2.2
   ·have E1 := HS1.out.df
    have E2 := HS2.out.df
    have E3 := HW4.out
    have E4 := HS4.out.df
    unfold upW
    rw [← E1, ← E2, ← E3, ← E4]
    exact lay_ex _ _
  ·have z2 : (lm == 2) = false := beq_eq_false_iff_ne.2 l2
   have z3 : (lm == 3) = false := beq_eq_false_iff_ne.2 l3
   go_wp2_with fail
   refine bodyPost_end (v := .tuple #[]) (results_none rfl _ _ _) rfl ⟨kpE k e1, r0, r1, kpE (kpE k e1) e2, q0, q1, kpE (kpE (kpE k e1) e2) e3, kpE (kpE (kpE k e1) e2) e3, 0, 0, fun h => ?_, fun h => ?_, fun h => ?_, rfl, ?_⟩
   ·rw [kpE_iff, kpE_iff, kpE_iff] at h
    exact ⟨h.1.1.1, HE1.out.1 h.1.1.2, HE2.out.1 h.1.2, by unfold Wi; omega⟩
   ·exact kpE_bd.1 (kpE_bd.1 (kpE_bd.1 h HE1.out.2.1) HE2.out.2.1) HE3.out.2.1
   ·exact kpE_bd.2 (kpE_bd.2 (kpE_bd.2 h HE1.out.2.2) HE2.out.2.2) HE3.out.2.2
   ·have E1 := HS1.out.df
    have E2 := HS2.out.df
    have E3 := HW4.out
    have c8 := HK3.out.chOther (.int .i64 (kpE (kpE (kpE k e1) e2) e3)) (HS2.out.ot 8 _ (by decide) (by decide) (HS1.out.ot 8 _ (by decide) (by decide) H89.out.1))
    have c9 := HK3.out.chOther (.int .i64 (kpE (kpE (kpE k e1) e2) e3)) (HS2.out.ot 9 _ (by decide) (by decide) (HS1.out.ot 9 _ (by decide) (by decide) H89.out.2))
    rw [← E3] at c8 c9
    unfold upW
    rw [← E1, ← E2, ← E3, HK4.out.keep, set_same c8, set_same c9]
    exact lay_ex _ _
end Go.Proofs.YtcbicpbbjbkiaaaGreatDoor
namespace Go.Proofs.YtcbicpbbjbkiaaaGreatDoor
set_option maxHeartbeats 1000000
open Go.RowKit

def ArcU (P : Prop) (lo hi : Int) (f : Nat) (vs : Array Value) : Prop := ∃ x y k : Int, (k = 0 → P ∧ x = lo ∧ y = hi ∧ (-1099511627776 ≤ lo ∧ lo ≤ 1099511627776) ∧ (-1099511627776 ≤ hi ∧ hi ≤ 1099511627776)) ∧ (0 ≤ k ∧ k ≤ 100) ∧ (k ≠ 0 → x = 0 ∧ y = 0) ∧ ∀ w : World, Calls Tryz.prog f vs w fun e w' => e = .returned (.tuple #[(.agg #[.int .i64 (x), .int .i64 (y)]), .int .i64 k]) ∧ ∃ d, w' = bw w d
theorem ang_resultU (lo hi : Int) : ArcU True lo hi 95 #[.int .i64 lo, .int .i64 hi] := by
 have H1 := Lib.hid (fun W => angle_fits lo W)
 have H2 := Lib.hid (fun W => angle_fits hi W)
 by_cases h : fitsB lo = true ∧ fitsB hi = true
 ·obtain ⟨h1, h2⟩ := h
  rw [h1] at H1
  rw [h2] at H2
  refine ⟨lo, hi, 0, fun _ => ⟨trivial, rfl, rfl, fitsB_iff.1 h1, fitsB_iff.1 h2⟩, by decide, fun h => absurd rfl h, fun w => ?_⟩
  clear h1 h2
  refine lay_start ?_
  go_enter Tryz.func95, Tryz.ntmps95
  go_wp2_with (go_at_call 53; first | ((with_reducible refine (H1.out _).mono ?_); rintro e w' ⟨rfl, rfl⟩) | ((with_reducible refine (H2.out _).mono ?_); rintro e w' ⟨rfl, rfl⟩))
  exact bodyPost_ret (v := .tuple #[(.agg #[.int .i64 (lo), .int .i64 (hi)]), .int .i64 0]) (by simp [results, Tryz.results95, go_sem]) rfl ⟨rfl, lay_ex _ _⟩
 ·have hor : (fitsB lo = false) ∨ (fitsB lo = true ∧ fitsB hi = false) := by
   cases h1 : fitsB lo
   ·exact .inl rfl
   ·cases h2 : fitsB hi
    ·exact .inr ⟨rfl, rfl⟩
    ·exact absurd ⟨h1, h2⟩ h
  clear h
  refine ⟨0, 0, 5, fun h => absurd h (by decide), by decide, fun _ => ⟨rfl, rfl⟩, fun w => ?_⟩
  rcases hor with h1 | ⟨h1, h2⟩
  all_goals
   first | rw [h1] at H1 | skip
   first | rw [h2] at H2 | skip
   refine lay_start ?_
   go_enter Tryz.func95, Tryz.ntmps95
   go_wp2_with (go_at_call 53; first | ((with_reducible refine (H1.out _).mono ?_); rintro e w' ⟨rfl, rfl⟩) | ((with_reducible refine (H2.out _).mono ?_); rintro e w' ⟨rfl, rfl⟩))
   exact bodyPost_ret (v := .tuple #[(.agg #[.int .i64 (0), .int .i64 (0)]), .int .i64 5]) (by simp [results, Tryz.results95, go_sem]) rfl ⟨rfl, lay_ex _ _⟩
theorem ang_AddU (a b x y : Int) : ArcU (validB a b = true ∧ validB x y = true) (a + x) (b + y) 33 #[(.agg #[.int .i64 (a), .int .i64 (b)]), (.agg #[.int .i64 (x), .int .i64 (y)])] := by
 have H1 := Lib.hid (fun W => angle_Valid a b W)
 have H2 := Lib.hid (fun W => angle_Valid x y W)
 by_cases h : validB a b = true ∧ validB x y = true
 ·obtain ⟨X, Y, k, hk, hk2, hk3, hR⟩ := ang_resultU (a + x) (b + y)
  have HR := Lib.hid hR
  refine ⟨X, Y, k, fun z => ⟨h, (hk z).2⟩, hk2, hk3, fun w => ?_⟩
  obtain ⟨h1, h2⟩ := h
  obtain ⟨f1, f2⟩ := wrap_sum h1 h2
  rw [h1] at H1
  rw [h2] at H2
  clear h1 h2 hR hk hk2 hk3
  refine lay_start ?_
  go_enter Tryz.func33, Tryz.ntmps33
  go_wp2_with (first | (go_at_call 38; first | ((with_reducible refine (H1.out _).mono ?_); rintro e w' ⟨rfl, dq, rfl⟩; rw [lay_bw]) | ((with_reducible refine (H2.out _).mono ?_); rintro e w' ⟨rfl, dq, rfl⟩; rw [lay_bw])) | (go_at_call 95; refine (HR.out _).mono ?_; rintro e w' ⟨rfl, d, rfl⟩))
  exact bodyPost_ret (v := .tuple #[(.agg #[.int .i64 (X), .int .i64 (Y)]), .int .i64 k]) (by simp [results, Tryz.results33, go_sem]) rfl ⟨rfl, lay_ex _ _⟩
 ·have hor : (validB a b = false) ∨ (validB a b = true ∧ validB x y = false) := by
   cases h1 : validB a b
   ·exact .inl rfl
   ·cases h2 : validB x y
    ·exact .inr ⟨rfl, rfl⟩
    ·exact absurd ⟨h1, h2⟩ h
  clear h
  refine ⟨0, 0, 1, fun h => absurd h (by decide), by decide, fun _ => ⟨rfl, rfl⟩, fun w => ?_⟩
  rcases hor with h1 | ⟨h1, h2⟩
  all_goals
   first | rw [h1] at H1 | skip
   first | rw [h2] at H2 | skip
   refine lay_start ?_
   go_enter Tryz.func33, Tryz.ntmps33
   go_wp2_with (go_at_call 38; first | ((with_reducible refine (H1.out _).mono ?_); rintro e w' ⟨rfl, dq, rfl⟩; rw [lay_bw]) | ((with_reducible refine (H2.out _).mono ?_); rintro e w' ⟨rfl, dq, rfl⟩; rw [lay_bw]))
   exact bodyPost_ret (v := .tuple #[(.agg #[.int .i64 (0), .int .i64 (0)]), .int .i64 1]) (by simp [results, Tryz.results33, go_sem]) rfl ⟨rfl, lay_ex _ _⟩
theorem ang_NegU (x y : Int) : ArcU (validB x y = true) (-y) (-x) 91 #[(.agg #[.int .i64 (x), .int .i64 (y)])] := by
 by_cases h : validB x y = true
 ·obtain ⟨g1, g2, g3⟩ := validB_iff.1 h
  exact ⟨-y, -x, 0, fun _ => ⟨h, rfl, rfl, by omega, by omega⟩, by decide, fun h => absurd rfl h, fun w => angle_Neg x y w h⟩
 ·have H1 := Lib.hid (fun W => angle_Valid x y W)
  rw [Bool.eq_false_iff.2 h] at H1
  clear h
  refine ⟨0, 0, 1, fun h => absurd h (by decide), by decide, fun _ => ⟨rfl, rfl⟩, fun w => ?_⟩
  refine lay_start ?_
  go_enter Tryz.func91, Tryz.ntmps91
  go_wp2_with (go_at_call 38; refine (H1.out _).mono ?_; rintro e w' ⟨rfl, dq, rfl⟩; rw [lay_bw])
  exact bodyPost_ret (v := .tuple #[(.agg #[.int .i64 (0), .int .i64 (0)]), .int .i64 1]) (by simp [results, Tryz.results91, go_sem]) rfl ⟨rfl, lay_ex _ _⟩
theorem ang_SubU (a b x y : Int) : ArcU (validB a b = true ∧ validB x y = true) (a - y) (b - x) 29 #[(.agg #[.int .i64 (a), .int .i64 (b)]), (.agg #[.int .i64 (x), .int .i64 (y)])] := by
 obtain ⟨X, Y, k, hk, hk2, hk3, hN⟩ := ang_NegU x y
 have HN := Lib.hid hN
 by_cases hz : k = 0
 ·subst hz
  obtain ⟨hv, rfl, rfl, h1, h2⟩ := hk rfl
  obtain ⟨X, Y, k, gk, gk2, gk3, hA⟩ := ang_AddU a b (-y) (-x)
  have HA := Lib.hid hA
  refine ⟨X, Y, k, fun h => ?_, gk2, gk3, fun w => ?_⟩
  ·obtain ⟨⟨p1, p2⟩, p3, p4, p5, p6⟩ := gk h
   exact ⟨⟨p1, hv⟩, by omega, by omega, by omega, by omega⟩
  clear hk hk2 hk3 hv h1 h2 hN gk gk2 gk3 hA
  refine lay_start ?_
  go_enter Tryz.func29, Tryz.ntmps29
  go_wp2_with (first | (go_at_call 91; refine (HN.out _).mono ?_; rintro e w' ⟨rfl, d, rfl⟩) | (go_at_call 33; refine (HA.out _).mono ?_; rintro e w' ⟨rfl, d, rfl⟩))
  exact bodyPost_ret (v := .tuple #[(.agg #[.int .i64 (X), .int .i64 (Y)]), .int .i64 k]) (by simp [results, Tryz.results29, go_sem]) rfl ⟨rfl, lay_ex _ _⟩
 ·obtain ⟨rfl, rfl⟩ := hk3 hz
  have hz2 : (k == 0) = false := beq_eq_false_iff_ne.2 hz
  refine ⟨0, 0, k, fun h => absurd h hz, hk2, fun _ => ⟨rfl, rfl⟩, fun w => ?_⟩
  clear hk hk2 hk3 hz hN
  refine lay_start ?_
  go_enter Tryz.func29, Tryz.ntmps29
  go_wp2_with (go_at_call 91; refine (HN.out _).mono ?_; rintro e w' ⟨rfl, d, rfl⟩)
  exact bodyPost_ret (v := .tuple #[(.agg #[.int .i64 (0), .int .i64 (0)]), .int .i64 k]) (by simp [results, Tryz.results29, go_sem]) rfl ⟨rfl, lay_ex _ _⟩
end Go.Proofs.YtcbicpbbjbkiaaaGreatDoor

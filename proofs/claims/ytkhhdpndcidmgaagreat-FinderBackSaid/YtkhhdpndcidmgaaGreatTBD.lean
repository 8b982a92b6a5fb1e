/- Contracts and plain laws, several texts in one: Idf; Mpb; Cal; Cal2; Pg2; Pg3; Pv; Pv2; Pv3; Unq; Bod; Pg4; Pg5 -/
import Derived.Test.YtkhhdpndcidmgaaGreatProg
import Derived.WalkKit
import Derived.WalkSpells
import Derived.WalkLawsBesides
import Derived.Lib.Hide
import Derived.BigQuiet
import Derived.Maps.Own
import Derived.Maps.OwnOps
import Derived.Maps.Views
import Derived.Deep.RegionWith
import Derived.Test.YtkhhdpndcidmgaaGreatTAE
import Derived.Test.YtkhhdpndcidmgaaGreatTAF
import Derived.Test.YtkhhdpndcidmgaaGreatTAI
import Derived.Test.YtkhhdpndcidmgaaGreatTAJ
import Derived.Test.YtkhhdpndcidmgaaGreatTAV
import Derived.Test.YtkhhdpndcidmgaaGreatTAW
import Derived.Test.YtkhhdpndcidmgaaGreatTAY
import Derived.Test.YtkhhdpndcidmgaaGreatTAZ
import Derived.Test.YtkhhdpndcidmgaaGreatTBA
import Derived.Test.YtkhhdpndcidmgaaGreatTBB
/- slices.IndexFunc and ContainsFunc over pages and tracks, for whatever closure. -/
namespace Go.Proofs.YtkhhdpndcidmgaaGreat
open Go.RowKit

end Go.Proofs.YtkhhdpndcidmgaaGreat
/- A set of strings kept as a map of bools of the call's own. No function of the program. -/
namespace Go.Proofs.YtkhhdpndcidmgaaGreat
open Go.RowKit Go.Maps

end Go.Proofs.YtkhhdpndcidmgaaGreat
/- Dates: package calendar's numbers and the reference's. -/
namespace Go.Proofs.YtkhhdpndcidmgaaGreat
open Go.RowKit

set_option maxRecDepth 100000
set_option maxRecDepth 512
end Go.Proofs.YtkhhdpndcidmgaaGreat
/- Dates: valid ones, their numbers. -/
namespace Go.Proofs.YtkhhdpndcidmgaaGreat
open Go.RowKit

end Go.Proofs.YtkhhdpndcidmgaaGreat
/- Lists of numbers in a range: package page's and the reference's; valid tracks. -/
namespace Go.Proofs.YtkhhdpndcidmgaaGreat
open Go.RowKit

end Go.Proofs.YtkhhdpndcidmgaaGreat
/- The reference's valid tracks. -/
namespace Go.Proofs.YtkhhdpndcidmgaaGreat
open Go.RowKit

end Go.Proofs.YtkhhdpndcidmgaaGreat
/- Valid pages: package page's, with its set of names. -/
namespace Go.Proofs.YtkhhdpndcidmgaaGreat
open Go.RowKit Go.Maps

end Go.Proofs.YtkhhdpndcidmgaaGreat
/- The walk of page.Valid. -/
namespace Go.Proofs.YtkhhdpndcidmgaaGreat
open Go.RowKit Go.Maps

end Go.Proofs.YtkhhdpndcidmgaaGreat
/- Valid pages in the reference; Find. -/
namespace Go.Proofs.YtkhhdpndcidmgaaGreat
open Go.RowKit Go.Maps

end Go.Proofs.YtkhhdpndcidmgaaGreat
/- What a slice reads as is one; closures over pages that are said of the page's value. -/
namespace Go.Proofs.YtkhhdpndcidmgaaGreat
open Go.RowKit

end Go.Proofs.YtkhhdpndcidmgaaGreat
/- Rows of strings; (*almanac.Book).Bodies. -/
namespace Go.Proofs.YtkhhdpndcidmgaaGreat
open Go.RowKit

def strR : RecT ByteArray := { E := 9, S := 103, k := 1, bytes := 16, enc := fun x => [.string x], wf := fun x => x.size ≤ 9223372036854775807 }
theorem info_str : (Tryz.prog.info? 9).map (fun i => (i.zero.map (fun z => z.cells.size), i.size, i.bytes)) = some (some 1, 1, 16) := by kernel_rfl
theorem strOk : RecOk strR where
  len _ := rfl
  one x u hu := by
    simp only [strR, List.mem_cons, List.not_mem_nil, or_false] at hu
    rcases hu with rfl
    rfl
  pos := by decide
  und := Tryz.underlying103
  info := recInfo info_str
  small := by decide
def StrPost (w : World) (T : List ByteArray) (e : Ending) (w' : World) : Prop := ∃ A c d, e = .returned (.slice A T.length c) ∧ w' = bw w d ∧ (A = none → c = 0) ∧ SlG strR (bw w d) (.slice A T.length c) T
def StrOwn (w : World) (T : List ByteArray) (e : Ending) (w' : World) : Prop := ∃ v d, e = .returned v ∧ w' = bw w d ∧ OwG strR (bw w d) w.heap.size v T
theorem str_flat1 (s : ByteArray) : (#[Value.string s] : Array Value).toList = [s].flatMap strR.enc := rfl
theorem aries_wf : ∀ x ∈ [ariesS], strR.wf x := by
  intro x hx
  rw [List.mem_singleton.1 hx]
  exact (by decide : ariesS.size ≤ 9223372036854775807)
set_option maxHeartbeats 1000000 in
set_option maxRecDepth 100000 in
theorem alm_Bodies (bk : Nat) (vd vp vs : Value) (l : List StarV) (T : List ByteArray) (w : World) (hB : Bk w bk vd vp vs) (hv : SlG stR w vs l)
    (hT : ∀ L, Calls Tryz.prog 55 #[.pointer (some ⟨bk, 0, none⟩)] (lay w L) (StrPost (lay w L) T)) (hl : l.length ≤ 1000000) (hT1 : T.length ≤ 1000000) :
    Calls Tryz.prog 107 #[.pointer (some ⟨bk, 0, none⟩)] w (StrOwn w ([ariesS] ++ T ++ l.map StarV.s)) := by
  have HT := Lib.hid hT
  have HT1 := Lib.hid hT1
  have HL := Lib.hid hl
  have HV := Lib.hid hv
  obtain ⟨k0, k1, k2, k3⟩ := hB
  clear hT hl hT1
  by_cases hz : l = []
  · subst hz
    obtain ⟨sa, sc, rfl⟩ := hv.form
    clear hv
    refine lay_start ?_
    go_enter Tryz.func107, Tryz.ntmps107
    go_wp2_with fail
    refine (HT.out _).mono ?_
    rintro e w' ⟨A, c, d1, rfl, rfl, hA, hS⟩
    rw [lay_bw] at hS ⊢
    have HS := Lib.hid hS
    have HA := Lib.hid hA
    clear hS hA
    go_wp2_with (at_builtin; refine push_slG strOk rfl _ _ rfl (lay w []) _ _ [ariesS] A T.length c T (lay_belowG (A := [_, _]) (B := [])) (owG_on (A := [_]) (owG_lit strOk [ariesS] (str_flat1 _) (by decide) aries_wf)) HS.out HA.out rfl rfl (by have := HT1.out; simp only [List.length_cons, List.length_nil]; omega) ?_; intro v2 d2 hv2)
    obtain ⟨Q0, hQ0⟩ : ∃ Q0, Q0 = [ariesS] ++ T := ⟨_, rfl⟩
    have HQ0 := Lib.hid hQ0
    rw [← hQ0] at hv2
    have H2 := Lib.hid hv2
    obtain ⟨va, vc, rfl⟩ := hv2.form
    clear hv2 hQ0
    generalize Q0.length = n0 at *
    go_wp2_with fail
    refine wp_loop_rounds 1 ?_
    rw [rounds_succ]
    go_wp2_with fail
    go_ret
    refine ⟨_, d2, rfl, rfl, ?_⟩
    have h := H2.out
    rw [HQ0.out, ← List.append_nil ([ariesS] ++ T)] at h
    exact h
  · obtain ⟨bs, os, cs, rfl, hcs, hbs, hr⟩ := hv.open (List.length_pos_iff.2 hz)
    obtain ⟨m, hm⟩ : ∃ m, l.length = m := ⟨_, rfl⟩
    have HM := Lib.hid hm
    have HR : Hid (∀ i x, l[i]? = some x → w.cell? ⟨bs, os + i * 4, none⟩ = some (.string x.s) ∧ w.cell? ⟨bs, os + i * 4 + 1, none⟩ = some (.int .i64 x.sha) ∧ w.cell? ⟨bs, os + i * 4 + 2, none⟩ = some (.int .i64 x.dec) ∧ w.cell? ⟨bs, os + i * 4 + 3, none⟩ = some (.int .i64 x.mag)) :=
      Lib.hid (fun i x hx => ⟨hr i x hx 0 _ rfl, hr i x hx 1 _ rfl, hr i x hx 2 _ rfl, hr i x hx 3 _ rfl⟩)
    have HW := Lib.hid hv.wf
    rw [hm] at hcs k3 HL
    clear hv hr hz hm HV
    refine lay_start ?_
    go_enter Tryz.func107, Tryz.ntmps107
    go_wp2_with fail
    refine (HT.out _).mono ?_
    rintro e w' ⟨A, c, d1, rfl, rfl, hA, hS⟩
    rw [lay_bw] at hS ⊢
    have HS := Lib.hid hS
    have HA := Lib.hid hA
    clear hS hA
    go_wp2_with (at_builtin; refine push_slG strOk rfl _ _ rfl (lay w []) _ _ [ariesS] A T.length c T (lay_belowG (A := [_, _]) (B := [])) (owG_on (A := [_]) (owG_lit strOk [ariesS] (str_flat1 _) (by decide) aries_wf)) HS.out HA.out rfl rfl (by have := HT1.out; simp only [List.length_cons, List.length_nil]; omega) ?_; intro v2 d2 hv2)
    obtain ⟨Q0, hQ0⟩ : ∃ Q0, Q0 = [ariesS] ++ T := ⟨_, rfl⟩
    have HQ0 := Lib.hid hQ0
    rw [← hQ0] at hv2
    have H2 := Lib.hid hv2
    obtain ⟨va, vc, rfl⟩ := hv2.form
    clear hv2 hQ0
    generalize Q0.length = n0 at *
    go_wp2_with fail
    go_loopw [3, 17] (fun v3 v17 wr => ∃ (i : Nat) (d : Ext), i ≤ m ∧ v17 = .int .i64 (i : Int) ∧ wr = lay w [.inr d] ∧ OwG strR (lay w [.inr d]) w.heap.size v3 (Q0 ++ (l.take i).map StarV.s)) (fun _ v17 _ => m - (intOf v17).toNat)
    case atStart => exact ⟨0, d2, Nat.zero_le _, rfl, rfl, by have h := H2.out; rw [← List.append_nil Q0] at h; exact h⟩
    case round =>
      obtain ⟨i, d, hi, rfl, rfl, hO⟩ := hrel
      have HO := Lib.hid hO
      clear hO
      by_cases hlt : i < m
      · obtain ⟨x, hx⟩ : ∃ x, l[i]? = some x := ⟨_, List.getElem?_eq_getElem (by rw [HM.out]; exact hlt)⟩
        obtain ⟨e0, e1, e2, e3⟩ := HR.out i x hx
        have HX := Lib.hid hx
        have x1 : (i : Int) < (m : Int) := by omega
        have x0 : (0 : Int) ≤ (i : Int) := by omega
        have HWx := Lib.hid (HW.out x (List.mem_of_getElem? hx)).1
        have HLn : Hid ((Q0 ++ (l.take i).map StarV.s).length ≤ 1000000000) := Lib.hid (by have h1 := HT1.out; have h2 := HL.out; rw [HQ0.out]; simp only [List.length_append, List.length_map, List.length_take, List.length_cons, List.length_nil]; omega)
        have HN : Hid (Q0 ++ (l.take i).map StarV.s ++ [x.s] = Q0 ++ (l.take (i + 1)).map StarV.s) := Lib.hid (by rw [List.take_add_one, hx]; simp)
        clear hx
        generalize hQ : Q0 ++ (l.take i).map StarV.s = Q at *
        clear hQ
        obtain ⟨xs, xa, xb, xc⟩ := x
        dsimp only at e0 e1 e2 e3 HWx HN
        go_wp2_with (at_builtin; refine push_rec strOk rfl _ _ rfl (lay w []) _ xs #[.string xs] 9 (posn w [1, d.n]) _ Q (lay_belowG (A := [_, _, _]) (B := [])) (owG_on (A := [_, _]) HO.out) (lay_get w _ 0 _ rfl) rfl rfl rfl HLn.out HWx.out ?_; intro v3 d3 hv3)
        have H3 := Lib.hid hv3
        clear hv3
        go_wp2_with fail
        go_roundw
        case rel =>
          exact ⟨i + 1, d3, by omega, by go_num, rfl, by have h3 := H3.out; rw [HN.out] at h3; exact h3⟩
        case measure => simp [intOf]; omega
      · obtain rfl : i = m := by omega
        have x1 : ¬ (i : Int) < (i : Int) := by omega
        have HN : Hid (l.take i = l) := Lib.hid (by rw [← HM.out]; exact List.take_length)
        rw [HN.out] at HO
        go_wp2_with fail
        go_ret
        exact ⟨_, d, rfl, rfl, by have h := HO.out; rw [HQ0.out] at h; exact h⟩
end Go.Proofs.YtkhhdpndcidmgaaGreat
/- The first day of 2000; a page of one track. -/
namespace Go.Proofs.YtkhhdpndcidmgaaGreat
open Go.RowKit

end Go.Proofs.YtkhhdpndcidmgaaGreat
/- A page of one track is valid just if the track is. -/
namespace Go.Proofs.YtkhhdpndcidmgaaGreat
open Go.RowKit

end Go.Proofs.YtkhhdpndcidmgaaGreat

/- Contracts and plain laws, several texts in one: Rf9; Rf10; Wh2; Wh3 -/
import Derived.Test.YtjfpgpipbooilaaGreatProg
import Derived.WalkKit
import Derived.WalkSpells
import Derived.WalkLawsBesides
import Derived.Lib.Hide
import Derived.BigQuiet
import Derived.Deep.RegionWith
import Derived.Test.YtjfpgpipbooilaaGreatVAA
import Derived.Test.YtjfpgpipbooilaaGreatVAB
import Derived.Test.YtjfpgpipbooilaaGreatVAC
import Derived.Test.YtjfpgpipbooilaaGreatVAY
import Derived.Test.YtjfpgpipbooilaaGreatVBD
import Derived.Test.YtjfpgpipbooilaaGreatVBL
import Derived.Test.YtjfpgpipbooilaaGreatVBN
import Derived.Test.YtjfpgpipbooilaaGreatVBO
/- The reference of layer 14: Over. -/
namespace Go.Proofs.YtjfpgpipbooilaaGreat
open Go.RowKit

def cnt (lo hi : Int) (h : Nat) : Nat := min (h - (lo / 3600000 + 1).toNat) (nhr lo hi)
end Go.Proofs.YtjfpgpipbooilaaGreat
/- The reference of layer 14: Margin, Gha, Dec. -/
namespace Go.Proofs.YtjfpgpipbooilaaGreat
open Go.RowKit

theorem Row.cons {w : World} {g : Nat} {f : Nat → Int} {L : List (Obj ⊕ Ext)} (h : Row (Go.Proofs.YtjfpgpipbooilaaGreat.lay w L) g f) (d : Ext) : Row (Go.Proofs.YtjfpgpipbooilaaGreat.lay w (.inr d :: L)) g f := h.lay [.inr d]
end Go.Proofs.YtjfpgpipbooilaaGreat
/- Hulls, sizes, joins; where the body of a track is on a day: the program's and the reference's. -/
namespace Go.Proofs.YtjfpgpipbooilaaGreat
set_option maxHeartbeats 1000000
open Go.RowKit Go.Shelf

theorem alm_hull (x0 y0 x1 y1 : Int) (w : World) :
    Calls Tryz.prog 87 #[(.agg #[.int .i64 (x0), .int .i64 (y0)]), (.agg #[.int .i64 (x1), .int .i64 (y1)])] w fun e w' => e = .returned (.agg #[.int .i64 (mn x0 x1), .int .i64 (mx y0 y1)]) ∧ ∃ d, w' = bw w d := by
  refine lay_start ?_
  go_enter Tryz.func87, Tryz.ntmps87
  go_wp2
  all_goals exact bodyPost_ret (v := (.agg #[.int .i64 (mn x0 x1), .int .i64 (mx y0 y1)])) (by simp [results, Tryz.results87, go_sem]) rfl ⟨rfl, lay_ex _ _⟩
theorem alm_positive (x y : Int) (w : World) :
    Calls Tryz.prog 130 #[(.agg #[.int .i64 (x), .int .i64 (y)])] w fun e w' => e = .returned (.agg #[.int .i64 (mx 0 x), .int .i64 (mx 0 y)]) ∧ ∃ d, w' = bw w d := by
  refine lay_start ?_
  go_enter Tryz.func130, Tryz.ntmps130
  go_wp2
  all_goals exact bodyPost_ret (v := (.agg #[.int .i64 (mx 0 x), .int .i64 (mx 0 y)])) (by simp [results, Tryz.results130, go_sem]) rfl ⟨rfl, lay_ex _ _⟩
structure TF (a b : Int) : Prop where
  h0 : 0 ≤ a
  h1 : a ≤ 21600000
  h2 : a ≤ b
  h3 : b ≤ a + 21600000
theorem tf_turn {x y : Int} (h : x ≤ y) : TF (turnLo x y) (turnHi x y) := by have := turn_bd h; constructor <;> omega
theorem sgn_bd (n : Int) : -10800000 ≤ sgnI n ∧ sgnI n < 10800000 := by unfold sgnI; omega
theorem hul_valid {a b c d : Int} (h : TF a b) (k : TF c d) : validB (hulL a c) (hulH a b c d) = true := by
  have := sgn_bd (c - a)
  obtain ⟨h0, h1, h2, h3⟩ := h
  obtain ⟨k0, k1, k2, k3⟩ := k
  unfold hulL hulH
  rw [mn_eq, mx_eq, validB_iff]; omega
theorem alm_join (a b c d : Int) (w : World) (h : TF a b) (k : TF c d) :
    Calls Tryz.prog 86 #[(.agg #[.int .i64 (a), .int .i64 (b)]), (.agg #[.int .i64 (c), .int .i64 (d)])] w fun e w' => e = .returned (.tuple #[(.agg #[.int .i64 (turnLo (hulL a c) (hulH a b c d)), .int .i64 (turnHi (hulL a c) (hulH a b c d))]), .int .i64 0]) ∧ ∃ d, w' = bw w d := by
  have HV := Lib.hid (hul_valid h k)
  have HT := Lib.hid (fun W => angle_Turn _ _ W HV.out)
  have HS := Lib.hid (fun W => angle_Sgn (c - a) W)
  have hb := sgn_bd (c - a)
  obtain ⟨h0, h1, h2, h3⟩ := h
  obtain ⟨k0, k1, k2, k3⟩ := k
  generalize turnLo (hulL a c) (hulH a b c d) = p at *
  generalize turnHi (hulL a c) (hulH a b c d) = q at *
  unfold hulL hulH at HT
  clear HV
  generalize sgnI (c - a) = s at *
  have q1 : IntKind.i64.wrap (c - a) = c - a := IntWalk.i64_in _ (by omega)
  have q2 : IntKind.i64.wrap (a + s) = a + s := IntWalk.i64_in _ (by omega)
  refine lay_start ?_
  go_enter Tryz.func86, Tryz.ntmps86
  go_wp2_with fail
  refine region_bw (by kernel_rfl) (by kernel_rfl) ?_
  repeat (go_big_quiet_step ((first | (go_at_call 131; exact bqs (HS.out _) ⟨_, rfl⟩))))
  refine wpQuiet_nil ?_
  rintro w' ⟨d, rfl⟩
  rw [lay_bw]
  go_wp2_with (first | (go_at_call 87; refine (alm_hull _ _ _ _ _).mono ?_; rintro e w' ⟨rfl, d, rfl⟩) | (go_at_call 37; refine (HT.out _).mono ?_; rintro e w' ⟨rfl, d, rfl⟩))
  all_goals exact bodyPost_ret (v := .tuple #[(.agg #[.int .i64 (p), .int .i64 (q)]), .int .i64 0]) (by simp [results, Tryz.results86, go_sem]) rfl ⟨rfl, lay_ex _ _⟩
structure SzOk (t : TrkV) : Prop where
  p0 : 0 ≤ t.p
  p1 : t.p ≤ 1000
  q0 : 0 ≤ t.q
  q1 : t.q ≤ 1000
theorem szOk_of {t : TrkV} (h : trkB t = true) : SzOk t := by
  have := (trkB_iff.1 h)
  have b1 := in_nth this.bp (by decide) (by decide) 0
  have b2 := in_nth this.bq (by decide) (by decide) 0
  change 0 ≤ t.p ∧ t.p ≤ 200 at b1
  change 0 ≤ t.q ∧ t.q ≤ 620 at b2
  constructor <;> omega
end Go.Proofs.YtjfpgpipbooilaaGreat
/- Where the body of a track is on a day: (*almanac.Book).during, body; the reference's track. -/
namespace Go.Proofs.YtjfpgpipbooilaaGreat
set_option maxHeartbeats 2000000
open Go.RowKit Go.Shelf

theorem idxR_pt {α β : Type} (p : α → Bool) (q : β → Bool) : ∀ (l : List α) (m : List β) (k : Nat), l.length = m.length → (∀ (i : Nat) x y, l[i]? = some x → m[i]? = some y → p x = q y) → idxR p l k = idxR q m k
  | [], [], _, _, _ => rfl
  | [], _ :: _, _, h, _ => by simp at h
  | _ :: _, [], _, h, _ => by simp at h
  | x :: l, y :: m, k, h, hp => by
    unfold idxR
    rw [hp 0 x y rfl rfl, idxR_pt p q l m (k + 1) (by simpa using h) (fun i a b ha hb => hp (i + 1) a b (by rw [List.getElem?_cons_succ]; exact ha) (by rw [List.getElem?_cons_succ]; exact hb))]
theorem tksD_idx {P : Nat → Prop} {w : World} {v : Value} {l : List TrkV} (h : TksD P w v l) (s : ByteArray) : ∃ ls : List TkW, SlG tkR w v ls ∧ idxR (fun x => nmB x.s s) ls 0 = fndT l s := by
  obtain ⟨ls, h1, h2, h3, h4⟩ := h
  exact ⟨ls, h1, idxR_pt _ _ ls l 0 h3 fun i x t hx ht => by rw [(h4 i x t hx ht).s]⟩
theorem alm_during1 (x : TkW) (s : ByteArray) (b : Nat) (w : World) (hb : b < w.heap.size) (hc : w.cell? ⟨b, 0, none⟩ = some (.string s)) :
    Calls Tryz.prog 128 #[.agg #[.string x.s, .slice x.ga x.gn x.gc, .slice x.da x.dn x.dc, .int .i64 x.p, .int .i64 x.q, .int .i64 x.r], .pointer (some ⟨b, 0, none⟩)] w fun e w' => e = .returned (.bool (nmB x.s s)) ∧ ∃ d, w' = bw w d := by
  obtain ⟨xs, x1, x2, x3, x4, x5, x6, x7, x8, x9⟩ := x
  dsimp only
  refine lay_start ?_
  go_enter Tryz.func128, Tryz.ntmps128
  go_wp2
  go_ret
  exact ⟨rfl, lay_ex _ _⟩
theorem trkAt_none {lp : List PgV} {s : ByteArray} {n : Int} (h : trkAt lp s n = none) : lp.find? (pgIs n) = none ∨ ∃ p, p ∈ lp ∧ lp.find? (pgIs n) = some p ∧ fndT p.ts s = -1 := by
  unfold trkAt at h
  cases hf : lp.find? (pgIs n) with
  | none => exact .inl rfl
  | some p =>
    rw [hf] at h
    refine .inr ⟨p, List.mem_of_find?_eq_some hf, rfl, ?_⟩
    rcases idxR_cases (fun t : TrkV => nmB t.s s) p.ts with ⟨h1, _⟩ | ⟨i, x, _, _, h3, _⟩
    · exact h1
    · have : p.ts.find? (fun t => nmB t.s s) = none := h
      rw [this] at h3; cases h3
theorem trkAt_some {lp : List PgV} {s : ByteArray} {n : Int} {t : TrkV} (h : trkAt lp s n = some t) : ∃ p, p ∈ lp ∧ lp.find? (pgIs n) = some p ∧ ∃ i : Nat, fndT p.ts s = (i : Int) ∧ p.ts[i]? = some t ∧ nmB t.s s = true := by
  unfold trkAt at h
  cases hf : lp.find? (pgIs n) with
  | none => rw [hf] at h; cases h
  | some p =>
    rw [hf] at h
    refine ⟨p, List.mem_of_find?_eq_some hf, rfl, ?_⟩
    rcases idxR_cases (fun t : TrkV => nmB t.s s) p.ts with ⟨_, h2⟩ | ⟨i, x, h1, h2, h3, h4⟩
    · have : p.ts.find? (fun t => nmB t.s s) = some t := h
      rw [this] at h2; cases h2
    · have : p.ts.find? (fun t => nmB t.s s) = some t := h
      rw [this] at h3; cases h3
      exact ⟨i, h1, h2, h4⟩
set_option maxRecDepth 100000 in
theorem alm_during_no {P : Nat → Prop} (bk : Nat) (vd vp vs : Value) (lp : List PgV) (s : ByteArray) (n lo hi : Int) (w : World) (hB : BkL P w bk vd vp vs lp) (h : trkAt lp s n = none) :
    Calls Tryz.prog 85 #[.pointer (some ⟨bk, 0, none⟩), .string s, .int .i64 n, .int .i64 lo, .int .i64 hi] w fun e w' => e = .returned (.tuple #[gv g0, .int .i64 20]) ∧ ∃ d, w' = bw w d := by
  have HPg := Lib.hid (fun L => alm_page bk vd vp vs lp n w (lay w L) (lay_extends w L) hB)
  rcases trkAt_none h with h1 | ⟨p, hp, h1, h2⟩
  · rw [h1] at HPg
    unfold PgPost at HPg
    clear hB h h1
    refine lay_start ?_
    go_enter Tryz.func85, Tryz.ntmps85
    go_wp2_with (go_at_call 127; refine (HPg.out _).mono ?_; rintro e w' ⟨rfl, d1, rfl⟩)
    exact bodyPost_ret (v := .tuple #[(.agg #[.int .i64 (0), .int .i64 (0), .int .i64 (0), .int .i64 (0), .int .i64 (0), .int .i64 (0), .int .i64 (0), .int .i64 (0)]), .int .i64 20]) (by simp [results, Tryz.results85, go_sem]) rfl ⟨rfl, lay_ex _ _⟩
  · rw [h1] at HPg
    unfold PgPost at HPg
    have HFn := Lib.hid h2
    have eI : ∀ args w, (callFunc 128 args).run Tryz.prog w = .ok (.enter 128 args) w := enters_of Tryz.func128 (by kernel_rfl) rfl
    have HE := Lib.hid eI
    clear hB h h1 h2 eI hp
    refine lay_start ?_
    go_enter Tryz.func85, Tryz.ntmps85
    go_wp2_with fail
    refine (HPg.out _).mono ?_
    rintro e w' ⟨x, rfl, hD, d1, rfl⟩
    rw [lay_bw]
    obtain ⟨ls, hls, hidx⟩ := tksD_idx hD.ts s
    rw [HFn.out] at hidx
    obtain ⟨xa, xc, hxe⟩ := hls.form
    have HIx := Lib.hid (fun L b' (hb : b' < (lay w L).heap.size) (hc : ∀ d, (lay w (.inr d :: L)).cell? ⟨b', 0, none⟩ = some (.string s)) => tk_IndexFunc 128 [.pointer (some ⟨b', 0, none⟩)] (fun x => nmB x.s s) _ ls (lay w L) (hls.lay L) HE.out (fun x _ d =>
      alm_during1 x s b' (lay w (.inr d :: L)) (Nat.lt_of_lt_of_le hb (bw_le _ d)) (hc d) |>.mono fun e w' ⟨h1, d2, h2⟩ => ⟨h1, _, h2.trans (bw_bw _ _ _)⟩))
    rw [hidx] at HIx
    clear hls hidx hD hxe
    go_wp2_with fail
    refine (HIx.out _ _ (by simp only [lay_size, shp, posn, List.sum_cons, List.sum_nil]; omega) (fun d => by simp [go_sem])).mono ?_
    rintro e w' ⟨rfl, d2, rfl⟩
    go_wp2_with fail
    exact bodyPost_ret (v := .tuple #[(.agg #[.int .i64 (0), .int .i64 (0), .int .i64 (0), .int .i64 (0), .int .i64 (0), .int .i64 (0), .int .i64 (0), .int .i64 (0)]), .int .i64 20]) (by simp [results, Tryz.results85, go_sem]) rfl ⟨rfl, lay_ex _ _⟩
end Go.Proofs.YtjfpgpipbooilaaGreat

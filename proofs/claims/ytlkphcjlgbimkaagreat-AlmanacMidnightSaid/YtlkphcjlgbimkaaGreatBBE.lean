/- Contracts and plain laws, several texts in one: Mid -/
import Derived.Test.YtlkphcjlgbimkaaGreatProg
import Derived.WalkKit
import Derived.WalkSpells
import Derived.WalkLawsBesides
import Derived.Lib.Hide
import Derived.BigQuiet
import Derived.Test.YtlkphcjlgbimkaaGreatBAA
import Derived.Test.YtlkphcjlgbimkaaGreatBAB
import Derived.Test.YtlkphcjlgbimkaaGreatBBB
import Derived.Test.YtlkphcjlgbimkaaGreatBBC
/- The place does not jump at midnight: the plain law. -/
namespace Go.Proofs.YtlkphcjlgbimkaaGreat
open Go.RowKit Go.Shelf

/-- An arc at the last millisecond of a day contains the last entry. -/
theorem last_in {A : Int → Int × Int} {r x y : Int} (r0 : 0 ≤ r) (h23 : A 23 = (x - 50, x + 50)) (h24 : A 24 = (y - 50, y + 50)) (hd : y - x ≤ 21600000 ∧ x - y ≤ 21600000) :
    (ovr A 86399999 86399999 r).1 ≤ y ∧ y ≤ (ovr A 86399999 86399999 r).2 := by
  have hp := pcs_at A (lo := 86399999) (hi := 86399999) (e := 86399999) (Int.le_refl _) (Int.le_refl _) (.inl rfl)
  have hi := ins_lin A 23 3599999 (by decide) (by decide)
  rw [show (23 : Int) * 3600000 + 3599999 = 86399999 by decide, show (23 : Int) + 1 = 24 by decide, h23, h24] at hi
  obtain ⟨h1, h2⟩ := hi
  rw [h1, h2] at hp
  obtain ⟨p1, p2⟩ := hp
  have hm : 0 ≤ cdiv (100 * r) 8 := by unfold cdiv; omega
  unfold ovr
  rw [if_neg (by decide)]
  dsimp only at *
  have q1 : ((x - 50) * (3600000 - 3599999) + (y - 50) * 3599999) / 3600000 ≤ y := by omega
  have q2 : y ≤ cdiv ((x + 50) * (3600000 - 3599999) + (y + 50) * 3599999) 3600000 := by unfold cdiv; omega
  omega
/-- An arc at the beginning of a day contains the first entry. -/
theorem first_in {A : Int → Int × Int} {r y : Int} (h0 : A 0 = (y - 50, y + 50)) : (ovr A 0 0 r).1 ≤ y ∧ y ≤ (ovr A 0 0 r).2 := by
  have hp := pcs_at A (lo := 0) (hi := 0) (e := 0) (Int.le_refl _) (Int.le_refl _) (.inl rfl)
  have hi := ins_hour A 0
  rw [show (0 : Int) * 3600000 = 0 by decide, h0] at hi
  obtain ⟨h1, h2⟩ := hi
  rw [h1, h2] at hp
  unfold ovr
  rw [if_pos (by decide)]
  dsimp only at hp
  omega
theorem ang_mod (g : List Int) : ∀ k : Nat, (ang g k - 100 * nth g k) % 21600000 = 0
  | 0 => by simp [ang]
  | k + 1 => by
    have := ang_mod g k
    simp only [ang]
    omega
theorem agr_of {a0 a1 b0 b1 c d : Int} (h0 : a0 ≤ c) (h1 : c ≤ a1) (k0 : b0 ≤ d) (k1 : d ≤ b1) (h : (d - c) % 21600000 = 0) : agrB (turnLo a0 a1) (turnHi a0 a1) (turnLo b0 b1) (turnHi b0 b1) = true := by
  unfold agrB
  rw [Bool.or_eq_true, decide_eq_true_eq, decide_eq_true_eq]
  unfold turnLo turnHi
  by_cases e1 : 21600000 ≤ a1 - a0
  · rw [if_pos e1, if_pos e1]
    left
    split <;> omega
  · rw [if_neg e1, if_neg e1]
    by_cases e2 : 21600000 ≤ b1 - b0
    · rw [if_pos e2, if_pos e2]
      right; omega
    · rw [if_neg e2, if_neg e2]
      rcases Int.le_total (d - b0) (c - a0) with e | e
      · left
        have : (b0 % 21600000 - a0 % 21600000) % 21600000 = ((c - a0) - (d - b0)) % 21600000 := by omega
        rw [this, Int.emod_eq_of_lt (by omega) (by omega)]; omega
      · right
        have : (a0 % 21600000 - b0 % 21600000) % 21600000 = ((d - b0) - (c - a0)) % 21600000 := by omega
        rw [this, Int.emod_eq_of_lt (by omega) (by omega)]; omega
theorem mid_gha {t u : TrkV} (ht : trkB t = true) (h : nth u.g 0 = nth t.g 24) : agrB (spanV t 86399999 86399999).a (spanV t 86399999 86399999).b (spanV u 0 0).a (spanV u 0 0).b = true := by
  have g := gd_of ht
  have hs : ang t.g 24 = ang t.g 23 + (100 * (nth t.g 24 - nth t.g 23)) % 21600000 := rfl
  have l := last_in (A := arcA (ang t.g)) (r := t.r) (x := ang t.g 23) (y := ang t.g 24) g.r0 (arcA_at _ 23 (by decide)) (arcA_at _ 24 (by decide)) (by omega)
  have f := first_in (A := arcA (ang u.g)) (r := u.r) (y := ang u.g 0) (arcA_at _ 0 (by decide))
  have m := ang_mod t.g 24
  have e : ang u.g 0 = 100 * nth u.g 0 := rfl
  exact agr_of l.1 l.2 f.1 f.2 (by rw [e, h]; omega)
theorem mid_dec {t u : TrkV} (ht : trkB t = true) (h : nth u.d 0 = nth t.d 24) : meetsB (spanV t 86399999 86399999).c (spanV t 86399999 86399999).d (spanV u 0 0).c (spanV u 0 0).d = true := by
  have g := gd_of ht
  have b3 := g.bd 23
  have b4 := g.bd 24
  have l := last_in (A := arcA (dcl t.d)) (r := t.r) (x := dcl t.d 23) (y := dcl t.d 24) g.r0 (arcA_at _ 23 (by decide)) (arcA_at _ 24 (by decide)) (by unfold dcl; omega)
  have f := first_in (A := arcA (dcl u.d)) (r := u.r) (y := dcl u.d 0) (arcA_at _ 0 (by decide))
  have e : dcl u.d 0 = dcl t.d 24 := by unfold dcl; rw [h]
  have b5 : -5400000 ≤ dcl t.d 24 ∧ dcl t.d 24 ≤ 5400000 := by unfold dcl; omega
  unfold meetsB spanV
  dsimp only
  rw [decide_eq_true_eq]
  change (decO t 86399999 86399999).1 ≤ _ ∧ _ ≤ (decO t 86399999 86399999).2 at l
  change (decO u 0 0).1 ≤ _ ∧ _ ≤ (decO u 0 0).2 at f
  rw [mx_eq, mn_eq, mx_eq, mn_eq]
  omega
theorem tk_mem {lp : List PgV} {p : PgV} {t : TrkV} (hp : p ∈ lp) (ht : t ∈ p.ts) : Lib.containsS (tkL lp) t.s = true := by
  rw [Lib.containsS_iff]
  unfold tkL
  refine List.mem_map.2 ⟨ofB t.s, mem_onceS.2 (List.mem_map.2 ⟨t.s, ?_, rfl⟩), toB_ofB _⟩
  unfold nmsL
  exact List.mem_flatMap.2 ⟨p, hp, List.mem_map.2 ⟨t, ht, rfl⟩⟩
/-- What holds of the places at midnight. -/
structure MidOk (s : ByteArray) (lp : List PgV) (day : Int) : Prop where
  l : (whR lp [] s (day - 1) (day - 1)).2 = 0 ∨ (whR lp [] s (day - 1) (day - 1)).2 = 20
  f : (whR lp [] s (day - 1) (day - 1)).2 = 0 → (whR lp [] s day day).2 = 0 ∧ (whR lp [] s (day - 1) day).2 = 0 ∧
    agrB (whR lp [] s (day - 1) (day - 1)).1.a (whR lp [] s (day - 1) (day - 1)).1.b (whR lp [] s day day).1.a (whR lp [] s day day).1.b = true ∧
    meetsB (whR lp [] s (day - 1) (day - 1)).1.c (whR lp [] s (day - 1) (day - 1)).1.d (whR lp [] s day day).1.c (whR lp [] s day day).1.d = true ∧
    PartOk (whR lp [] s (day - 1) (day - 1)).1 (whR lp [] s (day - 1) day).1 ∧ PartOk (whR lp [] s day day).1 (whR lp [] s (day - 1) day).1
theorem fnd_find {l : List TrkV} {s : ByteArray} {i : Nat} {t : TrkV} (h : fndT l s = (i : Int)) (ht : l[i]? = some t) : l.find? (fun t => nmB t.s s) = some t := by
  rcases idxR_cases (fun t : TrkV => nmB t.s s) l with ⟨h1, _⟩ | ⟨j, x, h1, h2, h3, _⟩
  · rw [show fndT l s = -1 from h1] at h; omega
  · rw [show fndT l s = (j : Int) from h1] at h
    obtain rfl : j = i := by omega
    rw [h2] at ht; cases ht
    exact h3
theorem mid_ok {p q : PgV} {k i : Nat} {x y : TrkV} (hk : NewOk [p, q] []) (hx : p.ts[k]? = some x) (hy : q.ts[i]? = some y) (hf : fndT q.ts x.s = (i : Int)) (hg : nth y.g 0 = nth x.g 24) (hd : nth y.d 0 = nth x.d 24) : MidOk x.s [p, q] (numI q.y q.m q.d * 86400000) := by
  have op := hk.ok p (List.mem_cons_self ..)
  have oq := hk.ok q (List.mem_cons_of_mem _ (List.mem_cons_self ..))
  have hlt : numI p.y p.m p.d < numI q.y q.m q.d := hk.ord 0 p q (by simp) rfl rfl
  have b0 := oq.lo
  have b1 := oq.hi
  have tx := (op.ok k x hx).1
  have kx := (op.ok k x hx).2
  have ty := (oq.ok i y hy).1
  have hmem := tk_mem (lp := [p, q]) (List.mem_cons_self ..) (List.mem_of_getElem? hx)
  have hA : isA x.s = false := by
    have := hk.tw
    unfold twB at this
    rw [Bool.or_eq_false_iff] at this
    cases h : isA x.s
    · rfl
    · rw [isA_iff.1 h] at hmem; rw [hmem] at this; exact this.1.symm ▸ rfl
  have hS : fndS [] x.s = -1 := rfl
  have hN : ([] : List StarV).find? (fun z => nmB z.s x.s) = none := rfl
  have fx := fnd_find kx hx
  have fy := fnd_find hf hy
  obtain ⟨n, hn⟩ : ∃ n, numI q.y q.m q.d = n := ⟨_, rfl⟩
  rw [hn] at hlt b0 b1 ⊢
  have e1 : (n * 86400000 - 1) / 86400000 = n - 1 := by omega
  have e2 : n * 86400000 / 86400000 = n := by omega
  have t1 : timB (n * 86400000 - 1) (n * 86400000 - 1) = true := timB_iff.2 (by omega)
  have t2 : timB (n * 86400000) (n * 86400000) = true := timB_iff.2 (by omega)
  have t3 : timB (n * 86400000 - 1) (n * 86400000) = true := timB_iff.2 (by omega)
  have w1 := whR_body (lp := [p, q]) (ls := []) t1 (by omega) hA hN hmem
  have w2 := whR_body (lp := [p, q]) (ls := []) t2 (by omega) hA hN hmem
  have w3 := whR_body (lp := [p, q]) (ls := []) t3 (by omega) hA hN hmem
  refine ⟨?_, fun h => ?_⟩
  · rw [w1]; exact bodyR_e
  · have qat : trkAt [p, q] x.s n = some y := by
      have : [p, q].find? (pgIs n) = some q := by
        rw [List.find?_cons, show pgIs n p = false from decide_eq_false (by omega), List.find?_cons, show pgIs n q = true from decide_eq_true hn]
      unfold trkAt; rw [this]; exact fy
    have pat : trkAt [p, q] x.s (n - 1) = some x := by
      rw [w1] at h
      cases hc : trkAt [p, q] x.s ((n * 86400000 - 1) / 86400000) with
      | none => rw [bodyR_no hc] at h; cases h
      | some z =>
        rw [e1] at hc
        obtain ⟨p', hp', hfd, _⟩ := trkAt_some hc
        have hp2 : pgIs (n - 1) p' = true := List.find?_some hfd
        have hp3 : numI p'.y p'.m p'.d = n - 1 := of_decide_eq_true hp2
        have : p' = p := by
          rcases List.mem_cons.1 hp' with e | e
          · exact e
          · rw [List.mem_singleton.1 e] at hp3; omega
        subst this
        unfold trkAt at hc ⊢
        rw [hfd] at hc ⊢
        exact fx
    have c1 : bodyR [p, q] x.s (n * 86400000 - 1) (n * 86400000 - 1) = (spanV x 86399999 86399999, 0) := by
      rw [bodyR_one (t := x) (by rw [e1]; exact pat) rfl, e1, show n * 86400000 - 1 - (n - 1) * 86400000 = 86399999 by omega]
    have c2 : bodyR [p, q] x.s (n * 86400000) (n * 86400000) = (spanV y 0 0, 0) := by
      rw [bodyR_one (t := y) (by rw [e2]; exact qat) rfl, e2, show n * 86400000 - n * 86400000 = 0 by omega]
    have c3 : bodyR [p, q] x.s (n * 86400000 - 1) (n * 86400000) = (joinV (spanV x 86399999 86400000) (spanV y 0 0), 0) := by
      rw [bodyR_two (t := x) (u := y) (by rw [e1]; exact pat) (by rw [e1, e2]; omega) (by rw [e2]; exact qat), e1, e2, show n * 86400000 - 1 - (n - 1) * 86400000 = 86399999 by omega, show n * 86400000 - n * 86400000 = 0 by omega]
    rw [w1, w2, w3, c1, c2, c3]
    exact ⟨rfl, rfl, mid_gha tx hg, mid_dec tx hd, (gha_part tx (by decide) (by decide) (by decide)).left, (gha_part ty (by decide) (by decide) (by decide)).right⟩
end Go.Proofs.YtlkphcjlgbimkaaGreat

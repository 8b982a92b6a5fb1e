/- Contracts and plain laws, several texts in one: HzJ -/
import Derived.Test.YthjfadfebhjhbaaGreatProg
import Derived.WalkKit
import Derived.WalkSpells
import Derived.WalkLawsBesides
import Derived.Lib.Hide
import Derived.BigQuiet
import Derived.Test.YthjfadfebhjhbaaGreatQAA
import Derived.Test.YthjfadfebhjhbaaGreatQAB
import Derived.Test.YthjfadfebhjhbaaGreatQBP
import Derived.Test.YthjfadfebhjhbaaGreatQBQ
/- The law HorizonBetween. -/
namespace Go.Proofs.YthjfadfebhjhbaaGreat
open Go.RowKit Go.Shelf

theorem siE_all {lp : List PgV} {ls : List StarV} {s : ByteArray} {x f t : Int} (hx : validB x x = true) (hft : f ≤ t) (hd : t - f ≤ 86400000) (hE : erF (siE lp ls s x) (smp f t) = 0) : ∀ m, f ≤ m → m ≤ t → siE lp ls s x m = 0 := by
  intro m h1 h2
  have key : ∀ z ∈ smp f t, siE lp ls s x z = 0 := by
    have : ∀ (l : List Int), erF (siE lp ls s x) l = 0 → ∀ z ∈ l, siE lp ls s x z = 0 := by
      intro l
      induction l with
      | nil => intro _ z hz; exact absurd hz (List.not_mem_nil)
      | cons a l ih =>
        intro h z hz
        have h' : (if siE lp ls s x a = 0 then erF (siE lp ls s x) l else siE lp ls s x a) = 0 := h
        by_cases c : siE lp ls s x a = 0
        · rw [if_pos c] at h'
          rcases List.mem_cons.1 hz with rfl | hz
          · exact c
          · exact ih h' z hz
        · rw [if_neg c] at h'; exact absurd h' c
    exact this _ hE
  have hf : f ∈ smp f t := by
    by_cases c : f < t
    · rw [smp_lt c]; exact List.mem_cons_self ..
    · rw [smp_end c, show f = t by omega]; exact List.mem_cons_self ..
  have ht : ∀ (k : Nat) (g : Int), (t - g).toNat ≤ k → t ∈ smp g t := by
    intro k
    induction k with
    | zero => intro g h; rw [smp_end (by omega)]; exact List.mem_cons_self ..
    | succ k ih =>
      intro g h
      by_cases c : g < t
      · rw [smp_lt c]; exact List.mem_cons_of_mem _ (ih _ (by omega))
      · rw [smp_end c]; exact List.mem_cons_self ..
  have ef := lhaE_z.1 (key f hf)
  have et := lhaE_z.1 (key t (ht _ f (Nat.le_refl _)))
  have em := whR_day ef.2.2 et.2.2 h1 h2 hd
  exact lhaE_z.2 ⟨whR_tm em, hx, em⟩
set_option maxHeartbeats 8000000 in
set_option maxRecDepth 100000 in
theorem law50_Between (vp : Value) (lp : List PgV) {w : World} (hp : PgsD (InB w) w vp lp) (vs : Value) (ls : List StarV) (hv : SlG stR w vs ls) (s : ByteArray) (_ : s.size ≤ maxLen) (u x : Int) (_ : (Lit.int .i64 u).wf = true) (_ : (Lit.int .i64 x).wf = true) (n : Int) (_ : (Lit.int .i64 n).wf = true) (f : Int) (_ : (Lit.int .i64 f).wf = true) (t : Int) (_ : (Lit.int .i64 t).wf = true) :
    Calls Tryz.prog 5 #[vp, vs, .string s, (.agg #[.int .i64 (u), .int .i64 (x)]), .int .i64 n, .int .i64 f, .int .i64 t] w fun e w' => e = .returned (.bool true) ∧ ∃ d, w' = bw w d := by
  have HAw := Lib.hid (fun W => law50_awake W)
  have HM := Lib.hid (fun L => law50_made vp vs lp ls s (lay w L) (hp.lay L) (inB_lay L) (hv.lay L))
  have HQ := Lib.hid (fun W => r50_Valid u x W)
  have HG := Lib.hid (fun W => r50_Given n f t W)
  have HPt := Lib.hid (fun W => r50_Point u x W)
  have HRf0 := Lib.hid (fun k L => (rfL_of hp hv k).lay L)
  obtain ⟨pa, pc, rfl⟩ := pgs_form hp
  obtain ⟨sa, sc, rfl⟩ := hv.form
  generalize ls.length = m at *
  generalize lp.length = pn at *
  clear hp hv
  refine lay_start ?_
  go_enter Tryz.func5, Tryz.ntmps5
  go_wp2_with (first | (go_at_call 8; refine (HAw.out _).mono ?_; rintro e w' ⟨rfl, d1, rfl⟩; rw [lay_bw]))
  refine (HM.out _).mono ?_
  rintro e w' hm
  rcases hm with ⟨rfl, d4, rfl⟩ | ⟨hE, bk, w1, d4, rfl, rfl, hB⟩
  · rw [lay_bw]
    go_wp2_with fail
    go_ret
    exact ⟨rfl, lay_ex _ _⟩
  · have hk := newE_0 hE
    rw [lay_bw] at hB ⊢
    cases hq : ptB u x
    · rw [hq] at HQ
      clear hB hk hE HM HAw HRf0 hq
      go_wp2_with (first | (go_at_call 16; refine (HQ.out _).mono ?_; rintro e w' ⟨rfl, dQ, rfl⟩; rw [lay_bw]))
      go_ret
      exact ⟨rfl, lay_ex _ _⟩
    · rw [hq] at HQ
      by_cases hg : gvnO n f t = 0
      · rw [hg] at HG
        obtain ⟨g1, g2, g3, g4, g5, g6, g7⟩ := gvnO_0 hg
        have k1 : IntKind.i64.wrap (t - f) = t - f := IntWalk.i64_in _ (by omega)
        by_cases hd : 86400000 < t - f
        · clear hB hk hE HM HAw HRf0 hq g1 g2 g3 g4 g5 g6 g7 hg
          go_wp2_with (first | (go_at_call 16; refine (HQ.out _).mono ?_; rintro e w' ⟨rfl, dQ, rfl⟩; rw [lay_bw]) | (go_at_call 19; refine (HG.out _).mono ?_; rintro e w' ⟨rfl, dG, rfl⟩; rw [lay_bw]))
          go_ret
          exact ⟨rfl, lay_ex _ _⟩
        · obtain ⟨-, hu, hvx⟩ := pt_plc hq
          have hS3 : ∀ m, siS lp ls s u x n m = -1 ∨ siS lp ls s u x n m = 0 ∨ siS lp ls s u x n m = 1 := fun m => sdI_in _ _ _
          have hEall := siE_all (lp := lp) (ls := ls) (s := s) hvx g2 (show t - f ≤ 86400000 by omega)
          have HC := Lib.hid (fun L => hz_Crossings (siS lp ls s u x n) (siE lp ls s x) bk s u x n f t (lay _ L) (WSide.on (fun t L => hz_wside hB hk s u x n t hu L) L) hq g1 g2 g3 g4 g5 hS3 hEall)
          have HRf := Lib.hid (fun L => HRf0.out hk L)
          have HCL := Lib.hid (cr_all hS3 g2)
          have HEA := Lib.hid hEall
          have HG2 := Lib.hid g2
          simp only [← lay_appG] at HC
          clear hB hE HM HAw HRf0 hq g1 g2 g3 g4 g5 g6 g7 hg hEall
          go_wp2_with (first | (go_at_call 16; refine (HQ.out _).mono ?_; rintro e w' ⟨rfl, dQ, rfl⟩; rw [lay_bw]) | (go_at_call 19; refine (HG.out _).mono ?_; rintro e w' ⟨rfl, dG, rfl⟩; rw [lay_bw]))
          refine (HC.out [_, _, _]).mono ?_
          rintro e w' ⟨⟨d5, rfl⟩, hcase⟩
          simp only [List.cons_append, List.nil_append, lay_bw] at hcase ⊢
          rcases hcase with ⟨her, rfl⟩ | ⟨her, v, rfl, hv⟩
          · obtain ⟨EX, hEX⟩ : ∃ EX, erF (siE lp ls s x) (smp f t) = EX := ⟨_, rfl⟩
            rw [hEX] at her ⊢
            have e1 : (EX != 0) = true := by simpa using her
            have e2 : (EX == 0) = false := beq_eq_false_iff_ne.2 her
            clear HRf HCL HEA HC hk
            go_wp2_with fail
            go_ret
            exact ⟨rfl, lay_ex _ _⟩
          · have HE0 := Lib.hid (HEA.out her)
            obtain ⟨va, vc, rfl, hcap, hwf, hopen⟩ := hv
            have hex : ∀ L, ∃ z, lay (lay w [.inr d5, .inr dG, .inr dQ, .inl (.cells #[.slice pa pn pc, .slice sa m sc] 38 (0, 0)), .inr d4, .inr d1, .inl (.cells #[.int .i64 u, .int .i64 x] 30 (0, 0))]) L = bw w z := fun L => by rw [← lay_appG]; exact lay_ex _ _
            have hc0 : (lay w [.inr d5, .inr dG, .inr dQ, .inl (.cells #[.slice pa pn pc, .slice sa m sc] 38 (0, 0)), .inr d4, .inr d1, .inl (.cells #[.int .i64 u, .int .i64 x] 30 (0, 0))]).cell? ⟨posn w [d4.n, d1.n, 1], 0, none⟩ = some (.slice pa pn pc) := by simp [go_sem]
            have hc1 : (lay w [.inr d5, .inr dG, .inr dQ, .inl (.cells #[.slice pa pn pc, .slice sa m sc] 38 (0, 0)), .inr d4, .inr d1, .inl (.cells #[.int .i64 u, .int .i64 x] 30 (0, 0))]).cell? ⟨posn w [d4.n, d1.n, 1], 1, none⟩ = some (.slice sa m sc) := by simp [go_sem]
            have hc2 : (lay w [.inr d5, .inr dG, .inr dQ, .inl (.cells #[.slice pa pn pc, .slice sa m sc] 38 (0, 0)), .inr d4, .inr d1, .inl (.cells #[.int .i64 u, .int .i64 x] 30 (0, 0))]).cell? ⟨posn w [], 0, none⟩ = some (.int .i64 u) := by simp [go_sem]
            have hc3 : (lay w [.inr d5, .inr dG, .inr dQ, .inl (.cells #[.slice pa pn pc, .slice sa m sc] 38 (0, 0)), .inr d4, .inr d1, .inl (.cells #[.int .i64 u, .int .i64 x] 30 (0, 0))]).cell? ⟨posn w [], 1, none⟩ = some (.int .i64 x) := by simp [go_sem]
            have hb0 : posn w [d4.n, d1.n, 1] < (lay w [.inr d5, .inr dG, .inr dQ, .inl (.cells #[.slice pa pn pc, .slice sa m sc] 38 (0, 0)), .inr d4, .inr d1, .inl (.cells #[.int .i64 u, .int .i64 x] 30 (0, 0))]).heap.size := by rw [lay_size]; simp [posn, shp]; omega
            have hb1 : posn w [] < (lay w [.inr d5, .inr dG, .inr dQ, .inl (.cells #[.slice pa pn pc, .slice sa m sc] 38 (0, 0)), .inr d4, .inr d1, .inl (.cells #[.int .i64 u, .int .i64 x] 30 (0, 0))]).heap.size := by rw [lay_size]; simp [posn, shp]; omega
            have HRF := Lib.hid (HRf.out [.inr d5, .inr dG, .inr dQ, .inl (.cells #[.slice pa pn pc, .slice sa m sc] 38 (0, 0)), .inr d4, .inr d1, .inl (.cells #[.int .i64 u, .int .i64 x] 30 (0, 0))])
            obtain ⟨l, hl⟩ : ∃ l, crF (siS lp ls s u x n) (smp f t) 0 0 = l := ⟨_, rfl⟩
            rw [hl] at hcap hwf hopen HCL ⊢
            rw [List.length_map] at hcap ⊢
            obtain ⟨N, hN⟩ : ∃ N, l.length = N := ⟨_, rfl⟩
            have hN1 : N ≤ 145 := by
              have := crF_len (siS lp ls s u x n) (smp f t) 0 0
              have := smp_len (f := f) (t := t) 144 (by have := HG2.out; omega)
              rw [hl] at *
              omega
            rw [hN] at hcap ⊢
            clear hwf HEA HC HRf
            go_wp2_with fail
            generalize hw2 : lay w [.inr d5, .inr dG, .inr dQ, .inl (.cells #[.slice pa pn pc, .slice sa m sc] 38 (0, 0)), .inr d4, .inr d1, .inl (.cells #[.int .i64 u, .int .i64 x] 30 (0, 0))] = w at hopen hex hc0 hc1 hc2 hc3 hb0 hb1 HRF ⊢
            generalize posn _ [d4.n, d1.n, 1] = p0 at hc0 hc1 hb0 ⊢
            clear hw2
            generalize posn _ [] = p1 at hc2 hc3 hb1 ⊢
            change Code.wp _ _ _ _ (lay w [])
            have HR : Hid (∀ i c, l[i]? = some c → ∃ b o, va = some ⟨b, o, none⟩ ∧ b < w.heap.size ∧ w.cell? ⟨b, o + i * 2, none⟩ = some (.int .i64 c.lo) ∧ w.cell? ⟨b, o + i * 2 + 1, none⟩ = some (.int .i64 c.hi)) := Lib.hid (fun i c hc => by
              obtain ⟨b, o, e, hb, hr⟩ := hopen (by intro h; rw [List.map_eq_nil_iff.1 h] at hc; simp at hc)
              have hc' : (l.map tmO)[i]? = some (tmO c) := by rw [List.getElem?_map, hc]; rfl
              exact ⟨b, o, e, hb, hr i _ hc' 0 _ rfl, hr i _ hc' 1 _ rfl⟩)
            clear hopen
            have HK := Lib.hid hk
            clear hk
            go_loopw [74, 19] (fun v74 v19 wr => ∃ (i : Nat) (dd : Ext) (pv k : Int), i ≤ N ∧ v74 = .int .i64 (i : Int) ∧ v19 = .int .i64 k ∧ wr = lay w [.inr dd] ∧ CrL (siS lp ls s u x n) f t pv k (l.drop i) ∧ ((i = 0 ∧ k = 0) ∨ ∃ j c', i = j + 1 ∧ l[j]? = some c' ∧ pv = c'.hi ∧ (k = 1 ∨ k = -1))) (fun v74 _ _ => ((N : Int) - intOf v74).toNat)
            case atStart => exact ⟨0, noExt _, 0, 0, Nat.zero_le _, rfl, rfl, (bw_noExt _).symm, HCL.out, .inl ⟨rfl, rfl⟩⟩
            case round =>
              obtain ⟨i, dd, pv, k, hi, rfl, rfl, rfl, hcl, hj⟩ := hrel
              have kI : IntKind.i64.wrap ((i : Int) + 1) = ((i + 1 : Nat) : Int) := by rw [IntWalk.i64_in _ (by omega)]; omega
              by_cases c : i < N
              · obtain ⟨z, hz⟩ : ∃ z, l[i]? = some z := ⟨_, List.getElem?_eq_getElem (by omega)⟩
                have hdr : l.drop i = z :: l.drop (i + 1) := by
                  have := List.drop_eq_getElem_cons (l := l) (i := i) (by omega)
                  rw [this]
                  congr 1
                  have := List.getElem?_eq_some_iff.1 hz
                  exact this.2
                rw [hdr] at hcl
                obtain ⟨q1, q2, q3, q4, q5, q6, q7⟩ := hcl
                obtain ⟨b, o, rfl, hb, e0, e1⟩ := HR.out i z hz
                obtain ⟨z0, z1, zu⟩ := z
                dsimp only at q1 q2 q3 q4 q5 q6 q7 e0 e1
                have HZ := Lib.hid hz
                have HR1 := Lib.hid (fun L => r50_Altitude _ _ lp ls s z0 z0 u u x x (lay w L) (HRF.out.lay L) HK.out hu)
                have HR2 := Lib.hid (fun L => r50_Altitude _ _ lp ls s z1 z1 u u x x (lay w L) (HRF.out.lay L) HK.out hu)
                rw [show lhaE lp ls s z0 z0 x x = 0 from HE0.out z0 (by omega) (by omega)] at HR1
                rw [show lhaE lp ls s z1 z1 x x = 0 from HE0.out z1 (by omega) (by omega)] at HR2
                have HSd1 : Hid (∀ W, Calls _ _ #[_, _] W fun e w' => e = .returned (.int .i64 (siS lp ls s u x n z0)) ∧ _) := Lib.hid (fun W => r50_Side (hzL lp ls s z0 z0 u u x x) (hzH lp ls s z0 z0 u u x x) n W)
                have HSd2 : Hid (∀ W, Calls _ _ #[_, _] W fun e w' => e = .returned (.int .i64 (siS lp ls s u x n z1)) ∧ _) := Lib.hid (fun W => r50_Side (hzL lp ls s z1 z1 u u x x) (hzH lp ls s z1 z1 u u x x) n W)
                generalize hzL lp ls s z0 z0 u u x x = a0 at *
                generalize hzH lp ls s z0 z0 u u x x = a1 at *
                generalize hzL lp ls s z1 z1 u u x x = b0 at *
                generalize hzH lp ls s z1 z1 u u x x = b1 at *
                have x0 : decide (z0 < f) = false := decide_eq_false (by omega)
                have x1 : decide (t < z1) = false := decide_eq_false (by omega)
                have x2 : decide (z1 ≤ z0) = false := decide_eq_false (by omega)
                have i0 : (0 : Int) ≤ (i : Int) := by omega
                have i1 : (i : Int) < (N : Int) := by omega
                have hsl3 : siS lp ls s u x n z0 = -1 ∨ siS lp ls s u x n z0 = 1 := by have := hS3 z0; omega
                clear hz hdr q2
                rcases hj with ⟨hi0, rfl⟩ | ⟨j, c', hij, hc', rfl, hk1⟩
                · have x4 : decide ((0 : Int) < (i : Int)) = false := decide_eq_false (by omega)
                  have x5 : decide (0 < i) = false := decide_eq_false (by omega)
                  clear q1 hi0
                  rcases hsl3 with hsl | hsl
                  · rw [hsl] at q3 HSd1
                    rw [show siS lp ls s u x n z1 = 1 by omega] at HSd2 q7
                    
                    have HQ7 := Lib.hid q7
                    clear q3 q7 hsl
                    go_wp2_with fail
                    refine region_mixW [0, 0, 0, 0, 0, 0, 0, 0, 0, 0, 0, 0, 0, 1, 1, 0] (by kernel_rfl) (by kernel_rfl) (by kernel_rfl) ?_
                    repeat (first | (refine wpM_quiet (fun K hK => ?_); go_simp; first | (refine hK _ ?_; clear hK K) | (apply Exists.intro; refine ⟨fun _ => ?_, hK _ ?_⟩; (first | (go_at_call 18; exact bq (HPt.out _) (fun d => ⟨d, rfl⟩)) | (go_at_call 14; exact bq (HR1.out _) (fun d => ⟨d, rfl⟩))); clear hK K)) | (refine wpM_special (fun K hK d => ?_); go_simp; refine hK _ _ (by first | exact lay_in w [_] _ | exact lay_in w [_, _] _ | exact lay_in w [_, _, _] _ | exact lay_in w [_, _, _, _] _ | exact lay_in w [_, _, _, _, _] _ | exact lay_in w [_, _, _, _, _, _] _) ?_; clear hK K))
                    refine wpM_nil ?_
                    intro d
                    rw [lay_bw]
                    go_wp2_with fail
                    refine region_mixW [0, 0, 0, 0, 0, 0, 0, 0, 0, 0, 0, 0, 0, 1, 1, 0] (by kernel_rfl) (by kernel_rfl) (by kernel_rfl) ?_
                    repeat (first | (refine wpM_quiet (fun K hK => ?_); go_simp; first | (refine hK _ ?_; clear hK K) | (apply Exists.intro; refine ⟨fun _ => ?_, hK _ ?_⟩; (first | (go_at_call 18; exact bq (HPt.out _) (fun d => ⟨d, rfl⟩)) | (go_at_call 14; exact bq (HR2.out _) (fun d => ⟨d, rfl⟩))); clear hK K)) | (refine wpM_special (fun K hK d => ?_); go_simp; refine hK _ _ (by first | exact lay_in w [_] _ | exact lay_in w [_, _] _ | exact lay_in w [_, _, _] _ | exact lay_in w [_, _, _, _] _ | exact lay_in w [_, _, _, _, _] _ | exact lay_in w [_, _, _, _, _, _] _) ?_; clear hK K))
                    refine wpM_nil ?_
                    intro d
                    rw [lay_bw]
                    go_wp2_with fail
                    refine region_bw (by kernel_rfl) (by kernel_rfl) ?_
                    repeat (go_big_quiet_step ((first | (go_at_call 15; first | ((with_reducible refine bq (HSd1.out _) ?_); first | exact (fun d => lay_join _ _ _ d) | exact (fun d => ⟨d, rfl⟩)) | ((with_reducible refine bq (HSd2.out _) ?_); first | exact (fun d => lay_join _ _ _ d) | exact (fun d => ⟨d, rfl⟩))))))
                    refine wpQuiet_nil ?_
                    rintro w' ⟨d, rfl⟩
                    rw [lay_bw]
                    go_wp2_with fail
                    refine region_bw (by kernel_rfl) (by kernel_rfl) ?_
                    repeat (go_big_quiet_step ((first | fail)))
                    refine wpQuiet_nil ?_
                    rintro w' ⟨d, rfl⟩
                    rw [lay_bw]
                    go_wp2_with fail
                    go_roundw
                    case rel => exact ⟨i + 1, _, z1, 1, by omega, rfl, rfl, (lay_ex w _).choose_spec, HQ7.out, .inr ⟨i, ⟨z0, z1, zu⟩, rfl, HZ.out, rfl, .inl rfl⟩⟩
                    case measure => simp [intOf]; omega
                  · rw [hsl] at q3 HSd1
                    rw [show siS lp ls s u x n z1 = -1 by omega] at HSd2 q7
                    
                    have HQ7 := Lib.hid q7
                    clear q3 q7 hsl
                    go_wp2_with fail
                    refine region_mixW [0, 0, 0, 0, 0, 0, 0, 0, 0, 0, 0, 0, 0, 1, 1, 0] (by kernel_rfl) (by kernel_rfl) (by kernel_rfl) ?_
                    repeat (first | (refine wpM_quiet (fun K hK => ?_); go_simp; first | (refine hK _ ?_; clear hK K) | (apply Exists.intro; refine ⟨fun _ => ?_, hK _ ?_⟩; (first | (go_at_call 18; exact bq (HPt.out _) (fun d => ⟨d, rfl⟩)) | (go_at_call 14; exact bq (HR1.out _) (fun d => ⟨d, rfl⟩))); clear hK K)) | (refine wpM_special (fun K hK d => ?_); go_simp; refine hK _ _ (by first | exact lay_in w [_] _ | exact lay_in w [_, _] _ | exact lay_in w [_, _, _] _ | exact lay_in w [_, _, _, _] _ | exact lay_in w [_, _, _, _, _] _ | exact lay_in w [_, _, _, _, _, _] _) ?_; clear hK K))
                    refine wpM_nil ?_
                    intro d
                    rw [lay_bw]
                    go_wp2_with fail
                    refine region_mixW [0, 0, 0, 0, 0, 0, 0, 0, 0, 0, 0, 0, 0, 1, 1, 0] (by kernel_rfl) (by kernel_rfl) (by kernel_rfl) ?_
                    repeat (first | (refine wpM_quiet (fun K hK => ?_); go_simp; first | (refine hK _ ?_; clear hK K) | (apply Exists.intro; refine ⟨fun _ => ?_, hK _ ?_⟩; (first | (go_at_call 18; exact bq (HPt.out _) (fun d => ⟨d, rfl⟩)) | (go_at_call 14; exact bq (HR2.out _) (fun d => ⟨d, rfl⟩))); clear hK K)) | (refine wpM_special (fun K hK d => ?_); go_simp; refine hK _ _ (by first | exact lay_in w [_] _ | exact lay_in w [_, _] _ | exact lay_in w [_, _, _] _ | exact lay_in w [_, _, _, _] _ | exact lay_in w [_, _, _, _, _] _ | exact lay_in w [_, _, _, _, _, _] _) ?_; clear hK K))
                    refine wpM_nil ?_
                    intro d
                    rw [lay_bw]
                    go_wp2_with fail
                    refine region_bw (by kernel_rfl) (by kernel_rfl) ?_
                    repeat (go_big_quiet_step ((first | (go_at_call 15; first | ((with_reducible refine bq (HSd1.out _) ?_); first | exact (fun d => lay_join _ _ _ d) | exact (fun d => ⟨d, rfl⟩)) | ((with_reducible refine bq (HSd2.out _) ?_); first | exact (fun d => lay_join _ _ _ d) | exact (fun d => ⟨d, rfl⟩))))))
                    refine wpQuiet_nil ?_
                    rintro w' ⟨d, rfl⟩
                    rw [lay_bw]
                    go_wp2_with fail
                    refine region_bw (by kernel_rfl) (by kernel_rfl) ?_
                    repeat (go_big_quiet_step ((first | fail)))
                    refine wpQuiet_nil ?_
                    rintro w' ⟨d, rfl⟩
                    rw [lay_bw]
                    go_wp2_with fail
                    go_roundw
                    case rel => exact ⟨i + 1, _, z1, -1, by omega, rfl, rfl, (lay_ex w _).choose_spec, HQ7.out, .inr ⟨i, ⟨z0, z1, zu⟩, rfl, HZ.out, rfl, .inr rfl⟩⟩
                    case measure => simp [intOf]; omega
                · obtain ⟨p2, p3⟩ := q1 (by omega)
                  obtain ⟨b', o', eb, -, -, e2⟩ := HR.out j c' hc'
                  simp only [Option.some.injEq, Addr.mk.injEq, and_true] at eb
                  obtain ⟨rfl, rfl⟩ := eb
                  have x3 : decide (z0 < c'.hi) = false := decide_eq_false (by omega)
                  have x4 : decide ((0 : Int) < (i : Int)) = true := decide_eq_true (by omega)
                  have x5 : decide (0 < i) = true := decide_eq_true (by omega)
                  have kj : IntKind.i64.wrap ((i : Int) - 1) = (j : Int) := by rw [IntWalk.i64_in _ (by omega)]; omega
                  have j0 : (0 : Int) ≤ (j : Int) := by omega
                  have j1 : (j : Int) < (N : Int) := by omega
                  generalize c'.hi = ch at *
                  clear hc' q1 hij
                  rcases hsl3 with hsl | hsl
                  · rw [hsl] at q3 HSd1
                    rw [show siS lp ls s u x n z1 = 1 by omega] at HSd2 q7
                    obtain rfl : k = -1 := by omega
                    have HQ7 := Lib.hid q7
                    clear q3 q7 hsl
                    go_wp2_with fail
                    refine region_mixW [0, 0, 0, 0, 0, 0, 0, 0, 0, 0, 0, 0, 0, 1, 1, 0] (by kernel_rfl) (by kernel_rfl) (by kernel_rfl) ?_
                    repeat (first | (refine wpM_quiet (fun K hK => ?_); go_simp; first | (refine hK _ ?_; clear hK K) | (apply Exists.intro; refine ⟨fun _ => ?_, hK _ ?_⟩; (first | (go_at_call 18; exact bq (HPt.out _) (fun d => ⟨d, rfl⟩)) | (go_at_call 14; exact bq (HR1.out _) (fun d => ⟨d, rfl⟩))); clear hK K)) | (refine wpM_special (fun K hK d => ?_); go_simp; refine hK _ _ (by first | exact lay_in w [_] _ | exact lay_in w [_, _] _ | exact lay_in w [_, _, _] _ | exact lay_in w [_, _, _, _] _ | exact lay_in w [_, _, _, _, _] _ | exact lay_in w [_, _, _, _, _, _] _) ?_; clear hK K))
                    refine wpM_nil ?_
                    intro d
                    rw [lay_bw]
                    go_wp2_with fail
                    refine region_mixW [0, 0, 0, 0, 0, 0, 0, 0, 0, 0, 0, 0, 0, 1, 1, 0] (by kernel_rfl) (by kernel_rfl) (by kernel_rfl) ?_
                    repeat (first | (refine wpM_quiet (fun K hK => ?_); go_simp; first | (refine hK _ ?_; clear hK K) | (apply Exists.intro; refine ⟨fun _ => ?_, hK _ ?_⟩; (first | (go_at_call 18; exact bq (HPt.out _) (fun d => ⟨d, rfl⟩)) | (go_at_call 14; exact bq (HR2.out _) (fun d => ⟨d, rfl⟩))); clear hK K)) | (refine wpM_special (fun K hK d => ?_); go_simp; refine hK _ _ (by first | exact lay_in w [_] _ | exact lay_in w [_, _] _ | exact lay_in w [_, _, _] _ | exact lay_in w [_, _, _, _] _ | exact lay_in w [_, _, _, _, _] _ | exact lay_in w [_, _, _, _, _, _] _) ?_; clear hK K))
                    refine wpM_nil ?_
                    intro d
                    rw [lay_bw]
                    go_wp2_with fail
                    refine region_bw (by kernel_rfl) (by kernel_rfl) ?_
                    repeat (go_big_quiet_step ((first | (go_at_call 15; first | ((with_reducible refine bq (HSd1.out _) ?_); first | exact (fun d => lay_join _ _ _ d) | exact (fun d => ⟨d, rfl⟩)) | ((with_reducible refine bq (HSd2.out _) ?_); first | exact (fun d => lay_join _ _ _ d) | exact (fun d => ⟨d, rfl⟩))))))
                    refine wpQuiet_nil ?_
                    rintro w' ⟨d, rfl⟩
                    rw [lay_bw]
                    go_wp2_with fail
                    refine region_bw (by kernel_rfl) (by kernel_rfl) ?_
                    repeat (go_big_quiet_step ((first | fail)))
                    refine wpQuiet_nil ?_
                    rintro w' ⟨d, rfl⟩
                    rw [lay_bw]
                    go_wp2_with fail
                    go_roundw
                    case rel => exact ⟨i + 1, _, z1, 1, by omega, rfl, rfl, (lay_ex w _).choose_spec, HQ7.out, .inr ⟨i, ⟨z0, z1, zu⟩, rfl, HZ.out, rfl, .inl rfl⟩⟩
                    case measure => simp [intOf]; omega
                  · rw [hsl] at q3 HSd1
                    rw [show siS lp ls s u x n z1 = -1 by omega] at HSd2 q7
                    obtain rfl : k = 1 := by omega
                    have HQ7 := Lib.hid q7
                    clear q3 q7 hsl
                    go_wp2_with fail
                    refine region_mixW [0, 0, 0, 0, 0, 0, 0, 0, 0, 0, 0, 0, 0, 1, 1, 0] (by kernel_rfl) (by kernel_rfl) (by kernel_rfl) ?_
                    repeat (first | (refine wpM_quiet (fun K hK => ?_); go_simp; first | (refine hK _ ?_; clear hK K) | (apply Exists.intro; refine ⟨fun _ => ?_, hK _ ?_⟩; (first | (go_at_call 18; exact bq (HPt.out _) (fun d => ⟨d, rfl⟩)) | (go_at_call 14; exact bq (HR1.out _) (fun d => ⟨d, rfl⟩))); clear hK K)) | (refine wpM_special (fun K hK d => ?_); go_simp; refine hK _ _ (by first | exact lay_in w [_] _ | exact lay_in w [_, _] _ | exact lay_in w [_, _, _] _ | exact lay_in w [_, _, _, _] _ | exact lay_in w [_, _, _, _, _] _ | exact lay_in w [_, _, _, _, _, _] _) ?_; clear hK K))
                    refine wpM_nil ?_
                    intro d
                    rw [lay_bw]
                    go_wp2_with fail
                    refine region_mixW [0, 0, 0, 0, 0, 0, 0, 0, 0, 0, 0, 0, 0, 1, 1, 0] (by kernel_rfl) (by kernel_rfl) (by kernel_rfl) ?_
                    repeat (first | (refine wpM_quiet (fun K hK => ?_); go_simp; first | (refine hK _ ?_; clear hK K) | (apply Exists.intro; refine ⟨fun _ => ?_, hK _ ?_⟩; (first | (go_at_call 18; exact bq (HPt.out _) (fun d => ⟨d, rfl⟩)) | (go_at_call 14; exact bq (HR2.out _) (fun d => ⟨d, rfl⟩))); clear hK K)) | (refine wpM_special (fun K hK d => ?_); go_simp; refine hK _ _ (by first | exact lay_in w [_] _ | exact lay_in w [_, _] _ | exact lay_in w [_, _, _] _ | exact lay_in w [_, _, _, _] _ | exact lay_in w [_, _, _, _, _] _ | exact lay_in w [_, _, _, _, _, _] _) ?_; clear hK K))
                    refine wpM_nil ?_
                    intro d
                    rw [lay_bw]
                    go_wp2_with fail
                    refine region_bw (by kernel_rfl) (by kernel_rfl) ?_
                    repeat (go_big_quiet_step ((first | (go_at_call 15; first | ((with_reducible refine bq (HSd1.out _) ?_); first | exact (fun d => lay_join _ _ _ d) | exact (fun d => ⟨d, rfl⟩)) | ((with_reducible refine bq (HSd2.out _) ?_); first | exact (fun d => lay_join _ _ _ d) | exact (fun d => ⟨d, rfl⟩))))))
                    refine wpQuiet_nil ?_
                    rintro w' ⟨d, rfl⟩
                    rw [lay_bw]
                    go_wp2_with fail
                    refine region_bw (by kernel_rfl) (by kernel_rfl) ?_
                    repeat (go_big_quiet_step ((first | fail)))
                    refine wpQuiet_nil ?_
                    rintro w' ⟨d, rfl⟩
                    rw [lay_bw]
                    go_wp2_with fail
                    go_roundw
                    case rel => exact ⟨i + 1, _, z1, -1, by omega, rfl, rfl, (lay_ex w _).choose_spec, HQ7.out, .inr ⟨i, ⟨z0, z1, zu⟩, rfl, HZ.out, rfl, .inr rfl⟩⟩
                    case measure => simp [intOf]; omega
              · clear hcl
                go_wp2_with fail
                go_ret
                exact ⟨rfl, hex _⟩
      · have e1 : (gvnO n f t != 0) = true := by simpa using hg
        have e2 : (gvnO n f t == 0) = false := beq_eq_false_iff_ne.2 hg
        generalize gvnO n f t = GG at *
        clear hB hk hE HM HAw HRf0 hq
        go_wp2_with (first | (go_at_call 16; refine (HQ.out _).mono ?_; rintro e w' ⟨rfl, dQ, rfl⟩; rw [lay_bw]) | (go_at_call 19; refine (HG.out _).mono ?_; rintro e w' ⟨rfl, dG, rfl⟩; rw [lay_bw]))
        go_ret
        exact ⟨rfl, lay_ex _ _⟩
end Go.Proofs.YthjfadfebhjhbaaGreat

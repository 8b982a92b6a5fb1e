/- Contracts and plain laws, several texts in one: Si1 -/
import Derived.Test.YtmomoeagnkjbiaaGreatProg
import Derived.WalkKit
import Derived.WalkSpells
import Derived.WalkLawsBesides
import Derived.Lib.Hide
import Derived.BigQuiet
import Derived.Test.YtmomoeagnkjbiaaGreatCAA
import Derived.Test.YtmomoeagnkjbiaaGreatCAB
import Derived.Test.YtmomoeagnkjbiaaGreatCAP
import Derived.Test.YtmomoeagnkjbiaaGreatCAX
/- average.Sights. -/
namespace Go.Proofs.YtmomoeagnkjbiaaGreat
open Go.RowKit

def zsV : Value := .agg #[.string ⟨#[]⟩, .int .i64 0, .int .i64 0, .int .i64 0, .int .i64 0, .int .i64 0, .int .i64 0, .int .i64 0, .int .i64 0, .int .i64 0, .int .i64 0]
/-- What Sights answers. -/
noncomputable def sgtE (l : List SgV) (n d f : Int) : Int := if gvnE l n d f ≠ 0 then gvnE l n d f else if sgB (menS l n d (accS l (outS l n d f) l.length)) = true then 0 else 24
noncomputable def sgtS (l : List SgV) (n d f : Int) : SgV := if sgtE l n d f = 0 then menS l n d (accS l (outS l n d f) l.length) else default
noncomputable def sgtL (l : List SgV) (n d f : Int) : List Int := if sgtE l n d f = 0 then outS l n d f else []
def SgtP (w : World) (s : SgV) (l : List Int) (x : Int) (e : Ending) (w' : World) : Prop := ∃ v d, e = .returned (.tuple #[s.val, v, .int .i64 x]) ∧ w' = bw w d ∧ Ow (bw w d) w.heap.size v l
theorem Ow.own_lt {W : World} {base : Nat} {v : Value} {l : List Int} (h : Ow W base v l) {k : Nat} (hk : v.ownBlock = some k) : base ≤ k ∧ k < W.heap.size := h.1.lt k hk
theorem heap_cells {W : World} {p : Nat} {cs : Array Value} {te : TypeId} (h : W.heap[p]? = some (.cells cs te (0, 0))) {j : Nat} {u : Value} (hu : cs[j]? = some u) : W.cell? ⟨p, j, none⟩ = some u := by
  simp [World.cell?, h, hu]
theorem keL {w : World} {A L : List (Obj ⊕ Ext)} {P : Nat} {O : Obj} (h : (lay w L).heap[P]? = some O) : P < (lay w (A ++ L)).heap.size :=
  Nat.lt_of_lt_of_le (Array.getElem?_eq_some_iff.1 h).1 (lay_below (A := A) (B := L)).size
theorem keP {w : World} {A L : List (Obj ⊕ Ext)} {P : Nat} {O : Obj} (h : (lay w L).heap[P]? = some O) : (lay w (A ++ L)).heap[P]? = some O :=
  ((lay_below (A := A) (B := L)).block P (Array.getElem?_eq_some_iff.1 h).1).trans h
theorem in_lay {w : World} {A L : List (Obj ⊕ Ext)} {e : Ext} {P : Nat} {O : Obj} (h : (lay w (.inr e :: L)).heap[P]? = some O) : ∃ k : KE (lay w L) P O, lay w (A ++ .inr e :: L) = lay w (.inr k.d :: L) := by
  obtain ⟨x, hx⟩ := lay_fold w (A ++ [.inr e]) L
  rw [List.append_assoc] at hx
  have hx' : lay w (A ++ .inr e :: L) = lay w (.inr x :: L) := hx
  refine ⟨⟨x, ?_⟩, hx'⟩
  show (lay w (.inr x :: L)).heap[P]? = _
  rw [← hx']
  exact keP h
set_option maxHeartbeats 8000000 in
set_option maxRecDepth 100000 in
theorem av_Sights (v : Value) (l : List SgV) (n d f : Int) (w : World) (hl : SlG sgR w v l) :
    Calls Tryz.prog 23 #[v, (.agg #[.int .i64 (n), .int .i64 (d)]), .int .i64 f] w (SgtP w (sgtS l n d f) (sgtL l n d f) (sgtE l n d f)) := by
  have HG := Lib.hid (fun W (q : SlG sgR W v l) => av_given v l n d f W q)
  have HL := Lib.hid hl
  by_cases c0 : gvnE l n d f = 0
  · have o := gvn_ok c0
    rw [c0] at HG
    have HO := Lib.hid o
    have HE0 := Lib.hid c0
    have HW0 : Hid (SgOk (fstS l)) := Lib.hid (hl.wf _ (List.mem_of_getElem? (getS_some (by have := o.l1; omega) : l[0]? = some (fstS l))))
    have o1 := o.l1
    have o2 := o.l2
    have h0 : l[0]? = some (fstS l) := getS_some (by omega)
    obtain ⟨b, oo, cap, rfl, -, hcp, hb, hF⟩ := Fst.of hl h0
    have HF := Lib.hid hF
    have HC : Hid (∀ k, k < l.length → Fst w b (oo + k * 11) (getS l k)) := Lib.hid fun k hk => by
      obtain ⟨b', o', cap', he, hc', hb', hr⟩ := hl.open (by omega)
      simp only [Value.slice.injEq, Option.some.injEq, Addr.mk.injEq, and_true, true_and] at he
      obtain ⟨⟨rfl, rfl⟩, rfl⟩ := he
      have g := fun j u (hu : (getS l k).cells[j]? = some u) => hr k _ (getS_some hk) j u hu
      simp only [show sgR.k = 11 from rfl, ← Nat.add_assoc] at g
      exact ⟨g 0 _ rfl, g 1 _ rfl, g 2 _ rfl, g 3 _ rfl, g 4 _ rfl, g 5 _ rfl, g 6 _ rfl, g 7 _ rfl, g 8 _ rfl, g 9 _ rfl, g 10 _ rfl⟩
    have HRes : Hid (∀ W v1 v2, Sl W v1 (tsS l) → Sl W v2 (rdS l) → Calls Tryz.prog 44 #[v1, v2, (.agg #[.int .i64 (n), .int .i64 (d)])] W (RwO W (resS l n d))) := Lib.hid fun W v1 v2 q1 q2 => av_residuals v1 v2 (tsS l) (rdS l) n d W q1 q2 (by rw [tsS_len, rdS_len]) (by rw [tsS_len]; exact o1) (by rw [tsS_len]; omega) o.bt o.bh o.fr
    have HRej : Hid (∀ W v, Sl W v (resS l n d) → Calls Tryz.prog 26 #[v, .int .i64 f] W (RwE W (outS l n d f) 0)) := Lib.hid fun W v q => by
      have h := av_Reject v (resS l n d) f W q
      rw [rejL_eq o.rej, o.rej] at h
      exact h
    have HTl := Lib.hid (tsS_len l)
    have HRl := Lib.hid (rdS_len l)
    have HTn := Lib.hid (fun i (hi : i < l.length) => tsS_nth hi)
    have HRn := Lib.hid (fun i (hi : i < l.length) => rdS_nth hi)
    obtain ⟨m, hm⟩ : ∃ m, l.length = m := ⟨_, rfl⟩
    have HM := Lib.hid hm
    rw [hm] at HG HL hcp HC HTl HRl HTn HRn o1 o2 ⊢
    clear hl h0 hF hm o c0
    refine lay_start ?_
    go_enter Tryz.func23, Tryz.ntmps23
    go_wp2_with (go_at_call 53; refine (HG.out _ (HL.out.lay _)).mono ?_; rintro e w' ⟨rfl, dA, rfl⟩)
    go_loopw [10, 11, 38] (fun v10 v11 v38 wr => ∃ (k : Nat) (dd : Ext), k ≤ m ∧ v38 = .int .i64 (k : Int) ∧ wr = lay w [.inr dd, .inl (.cells #[.string ⟨#[]⟩, .int .i64 0, .int .i64 0, .int .i64 0, .int .i64 0, .int .i64 0, .int .i64 0, .int .i64 0, .int .i64 0, .int .i64 0, .int .i64 0] 57 (0, 0)), .inl (.cells #[.int .i64 n, .int .i64 d] 26 (0, 0))] ∧ TwR (lay w [.inr dd, .inl (.cells #[.string ⟨#[]⟩, .int .i64 0, .int .i64 0, .int .i64 0, .int .i64 0, .int .i64 0, .int .i64 0, .int .i64 0, .int .i64 0, .int .i64 0, .int .i64 0] 57 (0, 0)), .inl (.cells #[.int .i64 n, .int .i64 d] 26 (0, 0))]) (lay w [.inl (.cells #[.string ⟨#[]⟩, .int .i64 0, .int .i64 0, .int .i64 0, .int .i64 0, .int .i64 0, .int .i64 0, .int .i64 0, .int .i64 0, .int .i64 0, .int .i64 0] 57 (0, 0)), .inl (.cells #[.int .i64 n, .int .i64 d] 26 (0, 0))]).heap.size v10 v11 ((tsS l).take k) ((rdS l).take k)) (fun _ _ v38 _ => m - (intOf v38).toNat)
    case atStart => exact ⟨0, dA, Nat.zero_le _, rfl, rfl, TwR.nil _ _⟩
    case round =>
      obtain ⟨k, dd, hk, rfl, rfl, hO⟩ := hrel
      have HT := Lib.hid hO
      clear hO
      by_cases hlt : k < m
      · obtain ⟨c0, c1, c2, c3, c4, c5, c6, c7, c8, c9, c10⟩ := HC.out k hlt
        have x1 : (k : Int) < (m : Int) := by omega
        have x0 : (0 : Int) ≤ (k : Int) := by omega
        have hv := HO.out.get (by rw [HM.out]; exact hlt)
        have hv0 := HO.out.get (i := 0) (by rw [HM.out]; omega)
        have HMs := Lib.hid (fun W => av_middle (getS l k) W hv.t)
        have HM0 := Lib.hid (fun W => av_middle (fstS l) W hv0.t)
        have hm1 := hv.t.mid
        have hm2 := hv0.t.mid
        rw [← fstS_get] at hm2
        have T1 := Lib.hid (take_nth (l := tsS l) (k := k) (by rw [HTl.out]; exact hlt))
        have T2 := Lib.hid (take_nth (l := rdS l) (k := k) (by rw [HRl.out]; exact hlt))
        rw [HTn.out k hlt] at T1
        rw [HRn.out k hlt] at T2
        have n1 : ((tsS l).take k).length ≤ 1000000000 := by rw [List.length_take]; omega
        have n2 : ((rdS l).take k).length ≤ 1000000000 := by rw [List.length_take]; omega
        have hhs := hv.hs
        obtain ⟨q0, q1, q2, q3, q4, q5, q6, q7, q8, q9, q10⟩ := HF.out
        generalize getS l k = s at *
        generalize fstS l = s0 at *
        rw [sg_val] at HMs HM0
        have lw1 : (Lit.int .i64 (midI s - midI s0)).wf = true := lit_b (by omega)
        have lw2 : (Lit.int .i64 s.hs).wf = true := lit_b (by omega)
        have k1 : IntKind.i64.wrap (midI s - midI s0) = midI s - midI s0 := IntWalk.i64_in _ (by omega)
        generalize midI s = M at *
        generalize midI s0 = M0 at *
        clear hv hv0 hm1 hm2 hhs
        generalize (tsS l).take k = L1 at *
        generalize (rdS l).take k = L2 at *
        have y1 : (0 : Int) < (m : Int) := by omega
        have y2 : 0 < m := by omega
        go_wp2_with fail
        obtain ⟨e0, he0⟩ := lay_fold w [.inl (.cells #[.string s.body, .int .i64 s.limb, .int .i64 s.lo, .int .i64 s.hi, .int .i64 s.hs, .int .i64 s.wi, .int .i64 s.hz, .int .i64 s.ey, .int .i64 s.sh, .int .i64 s.te, .int .i64 s.pr] 57 (0, 0)), .inr dd] [.inl (.cells #[.string ⟨#[]⟩, .int .i64 0, .int .i64 0, .int .i64 0, .int .i64 0, .int .i64 0, .int .i64 0, .int .i64 0, .int .i64 0, .int .i64 0, .int .i64 0] 57 (0, 0)), .inl (.cells #[.int .i64 n, .int .i64 d] 26 (0, 0))]
        change lay w [.inl (.cells #[.string s.body, .int .i64 s.limb, .int .i64 s.lo, .int .i64 s.hi, .int .i64 s.hs, .int .i64 s.wi, .int .i64 s.hz, .int .i64 s.ey, .int .i64 s.sh, .int .i64 s.te, .int .i64 s.pr] 57 (0, 0)), .inr dd, .inl (.cells #[.string ⟨#[]⟩, .int .i64 0, .int .i64 0, .int .i64 0, .int .i64 0, .int .i64 0, .int .i64 0, .int .i64 0, .int .i64 0, .int .i64 0, .int .i64 0] 57 (0, 0)), .inl (.cells #[.int .i64 n, .int .i64 d] 26 (0, 0))] = lay w [.inr e0, .inl (.cells #[.string ⟨#[]⟩, .int .i64 0, .int .i64 0, .int .i64 0, .int .i64 0, .int .i64 0, .int .i64 0, .int .i64 0, .int .i64 0, .int .i64 0, .int .i64 0] 57 (0, 0)), .inl (.cells #[.int .i64 n, .int .i64 d] 26 (0, 0))] at he0
        have hsg := lay_get w [.inl (.cells #[.string s.body, .int .i64 s.limb, .int .i64 s.lo, .int .i64 s.hi, .int .i64 s.hs, .int .i64 s.wi, .int .i64 s.hz, .int .i64 s.ey, .int .i64 s.sh, .int .i64 s.te, .int .i64 s.pr] 57 (0, 0)), .inr dd, .inl (.cells #[.string ⟨#[]⟩, .int .i64 0, .int .i64 0, .int .i64 0, .int .i64 0, .int .i64 0, .int .i64 0, .int .i64 0, .int .i64 0, .int .i64 0, .int .i64 0] 57 (0, 0)), .inl (.cells #[.int .i64 n, .int .i64 d] 26 (0, 0))] 0 _ rfl
        change (lay w [.inl (.cells #[.string s.body, .int .i64 s.limb, .int .i64 s.lo, .int .i64 s.hi, .int .i64 s.hs, .int .i64 s.wi, .int .i64 s.hz, .int .i64 s.ey, .int .i64 s.sh, .int .i64 s.te, .int .i64 s.pr] 57 (0, 0)), .inr dd, .inl (.cells #[.string ⟨#[]⟩, .int .i64 0, .int .i64 0, .int .i64 0, .int .i64 0, .int .i64 0, .int .i64 0, .int .i64 0, .int .i64 0, .int .i64 0, .int .i64 0] 57 (0, 0)), .inl (.cells #[.int .i64 n, .int .i64 d] 26 (0, 0))]).heap[posn w [dd.n, 1, 1]]? = _ at hsg
        have HT0 := Lib.hid (TwR.on (A := [.inl (.cells #[.string s.body, .int .i64 s.limb, .int .i64 s.lo, .int .i64 s.hi, .int .i64 s.hs, .int .i64 s.wi, .int .i64 s.hz, .int .i64 s.ey, .int .i64 s.sh, .int .i64 s.te, .int .i64 s.pr] 57 (0, 0))]) HT.out)
        change Hid (TwR (lay w [.inl (.cells #[.string s.body, .int .i64 s.limb, .int .i64 s.lo, .int .i64 s.hi, .int .i64 s.hs, .int .i64 s.wi, .int .i64 s.hz, .int .i64 s.ey, .int .i64 s.sh, .int .i64 s.te, .int .i64 s.pr] 57 (0, 0)), .inr dd, .inl (.cells #[.string ⟨#[]⟩, .int .i64 0, .int .i64 0, .int .i64 0, .int .i64 0, .int .i64 0, .int .i64 0, .int .i64 0, .int .i64 0, .int .i64 0, .int .i64 0] 57 (0, 0)), .inl (.cells #[.int .i64 n, .int .i64 d] 26 (0, 0))]) _ _ _ L1 L2) at HT0
        have hPs : (lay w [.inr dd, .inl (.cells #[.string ⟨#[]⟩, .int .i64 0, .int .i64 0, .int .i64 0, .int .i64 0, .int .i64 0, .int .i64 0, .int .i64 0, .int .i64 0, .int .i64 0, .int .i64 0] 57 (0, 0)), .inl (.cells #[.int .i64 n, .int .i64 d] 26 (0, 0))]).heap.size = posn w [dd.n, 1, 1] := lay_size w _
        rw [he0] at hsg HT0 ⊢
        obtain ⟨P, hP⟩ : ∃ P, posn w [dd.n, 1, 1] = P := ⟨_, rfl⟩
        rw [hP] at hsg hPs ⊢
        clear hP he0
        have hne : Nonempty (KE (lay w [.inl (.cells #[.string ⟨#[]⟩, .int .i64 0, .int .i64 0, .int .i64 0, .int .i64 0, .int .i64 0, .int .i64 0, .int .i64 0, .int .i64 0, .int .i64 0, .int .i64 0] 57 (0, 0)), .inl (.cells #[.int .i64 n, .int .i64 d] 26 (0, 0))]) P (.cells #[.string s.body, .int .i64 s.limb, .int .i64 s.lo, .int .i64 s.hi, .int .i64 s.hs, .int .i64 s.wi, .int .i64 s.hz, .int .i64 s.ey, .int .i64 s.sh, .int .i64 s.te, .int .i64 s.pr] 57 (0, 0))) := ⟨⟨e0, hsg⟩⟩
        refine region_mixK (κ := KE (lay w [.inl (.cells #[.string ⟨#[]⟩, .int .i64 0, .int .i64 0, .int .i64 0, .int .i64 0, .int .i64 0, .int .i64 0, .int .i64 0, .int .i64 0, .int .i64 0, .int .i64 0] 57 (0, 0)), .inl (.cells #[.int .i64 n, .int .i64 d] 26 (0, 0))]) P (.cells #[.string s.body, .int .i64 s.limb, .int .i64 s.lo, .int .i64 s.hi, .int .i64 s.hs, .int .i64 s.wi, .int .i64 s.hz, .int .i64 s.ey, .int .i64 s.sh, .int .i64 s.te, .int .i64 s.pr] 57 (0, 0))) (fun k => lay w [.inr k.d, .inl (.cells #[.string ⟨#[]⟩, .int .i64 0, .int .i64 0, .int .i64 0, .int .i64 0, .int .i64 0, .int .i64 0, .int .i64 0, .int .i64 0, .int .i64 0, .int .i64 0] 57 (0, 0)), .inl (.cells #[.int .i64 n, .int .i64 d] 26 (0, 0))]) ?hCl ⟨⟨e0, hsg⟩, rfl⟩ 15
          (.q 0 (.q 1 (.q 2 (.q 3 (.q 4 (.q 5 (.q 6 (.q 7 (.q 10 (.q 11 (.q 12 (.two 8 (.two 9 (.one 13 (.one 14 .done)) 13 (.one 9 (.one 14 .done))) 13 (.one 8 (.one 9 (.one 14 .done)))))))))))))))
          (by kernel_rfl) (by kernel_rfl) (by kernel_rfl) (by kernel_rfl) (by simp) (by kernel_rfl) ?main
        case hCl =>
          intro k d'
          obtain ⟨x, hx⟩ := lay_fold w [.inr d', .inr k.d] [.inl (.cells #[.string ⟨#[]⟩, .int .i64 0, .int .i64 0, .int .i64 0, .int .i64 0, .int .i64 0, .int .i64 0, .int .i64 0, .int .i64 0, .int .i64 0, .int .i64 0] 57 (0, 0)), .inl (.cells #[.int .i64 n, .int .i64 d] 26 (0, 0))]
          refine ⟨⟨x, ?_⟩, hx⟩
          show (lay w [.inr x, .inl (.cells #[.string ⟨#[]⟩, .int .i64 0, .int .i64 0, .int .i64 0, .int .i64 0, .int .i64 0, .int .i64 0, .int .i64 0, .int .i64 0, .int .i64 0, .int .i64 0] 57 (0, 0)), .inl (.cells #[.int .i64 n, .int .i64 d] 26 (0, 0))]).heap[P]? = _
          rw [← show lay w [.inr d', .inr k.d, .inl (.cells #[.string ⟨#[]⟩, .int .i64 0, .int .i64 0, .int .i64 0, .int .i64 0, .int .i64 0, .int .i64 0, .int .i64 0, .int .i64 0, .int .i64 0, .int .i64 0] 57 (0, 0)), .inl (.cells #[.int .i64 n, .int .i64 d] 26 (0, 0))] = lay w [.inr x, .inl (.cells #[.string ⟨#[]⟩, .int .i64 0, .int .i64 0, .int .i64 0, .int .i64 0, .int .i64 0, .int .i64 0, .int .i64 0, .int .i64 0, .int .i64 0, .int .i64 0] 57 (0, 0)), .inl (.cells #[.int .i64 n, .int .i64 d] 26 (0, 0))] from hx]
          exact (bw_get (lay w [.inr k.d, .inl (.cells #[.string ⟨#[]⟩, .int .i64 0, .int .i64 0, .int .i64 0, .int .i64 0, .int .i64 0, .int .i64 0, .int .i64 0, .int .i64 0, .int .i64 0, .int .i64 0] 57 (0, 0)), .inl (.cells #[.int .i64 n, .int .i64 d] 26 (0, 0))]) d' P (Array.getElem?_eq_some_iff.1 k.h).1).trans k.h
        case main =>
          have g0 : ∀ k : KE (lay w [.inl (.cells #[.string ⟨#[]⟩, .int .i64 0, .int .i64 0, .int .i64 0, .int .i64 0, .int .i64 0, .int .i64 0, .int .i64 0, .int .i64 0, .int .i64 0, .int .i64 0] 57 (0, 0)), .inl (.cells #[.int .i64 n, .int .i64 d] 26 (0, 0))]) P (.cells #[.string s.body, .int .i64 s.limb, .int .i64 s.lo, .int .i64 s.hi, .int .i64 s.hs, .int .i64 s.wi, .int .i64 s.hz, .int .i64 s.ey, .int .i64 s.sh, .int .i64 s.te, .int .i64 s.pr] 57 (0, 0)), (lay w [.inr k.d, .inl (.cells #[.string ⟨#[]⟩, .int .i64 0, .int .i64 0, .int .i64 0, .int .i64 0, .int .i64 0, .int .i64 0, .int .i64 0, .int .i64 0, .int .i64 0, .int .i64 0] 57 (0, 0)), .inl (.cells #[.int .i64 n, .int .i64 d] 26 (0, 0))]).cell? ⟨P, 0, none⟩ = some (.string s.body) := fun k => heap_cells k.h rfl
          have g1 : ∀ k : KE (lay w [.inl (.cells #[.string ⟨#[]⟩, .int .i64 0, .int .i64 0, .int .i64 0, .int .i64 0, .int .i64 0, .int .i64 0, .int .i64 0, .int .i64 0, .int .i64 0, .int .i64 0] 57 (0, 0)), .inl (.cells #[.int .i64 n, .int .i64 d] 26 (0, 0))]) P (.cells #[.string s.body, .int .i64 s.limb, .int .i64 s.lo, .int .i64 s.hi, .int .i64 s.hs, .int .i64 s.wi, .int .i64 s.hz, .int .i64 s.ey, .int .i64 s.sh, .int .i64 s.te, .int .i64 s.pr] 57 (0, 0)), (lay w [.inr k.d, .inl (.cells #[.string ⟨#[]⟩, .int .i64 0, .int .i64 0, .int .i64 0, .int .i64 0, .int .i64 0, .int .i64 0, .int .i64 0, .int .i64 0, .int .i64 0, .int .i64 0] 57 (0, 0)), .inl (.cells #[.int .i64 n, .int .i64 d] 26 (0, 0))]).cell? ⟨P, 1, none⟩ = some (.int .i64 s.limb) := fun k => heap_cells k.h rfl
          have g2 : ∀ k : KE (lay w [.inl (.cells #[.string ⟨#[]⟩, .int .i64 0, .int .i64 0, .int .i64 0, .int .i64 0, .int .i64 0, .int .i64 0, .int .i64 0, .int .i64 0, .int .i64 0, .int .i64 0] 57 (0, 0)), .inl (.cells #[.int .i64 n, .int .i64 d] 26 (0, 0))]) P (.cells #[.string s.body, .int .i64 s.limb, .int .i64 s.lo, .int .i64 s.hi, .int .i64 s.hs, .int .i64 s.wi, .int .i64 s.hz, .int .i64 s.ey, .int .i64 s.sh, .int .i64 s.te, .int .i64 s.pr] 57 (0, 0)), (lay w [.inr k.d, .inl (.cells #[.string ⟨#[]⟩, .int .i64 0, .int .i64 0, .int .i64 0, .int .i64 0, .int .i64 0, .int .i64 0, .int .i64 0, .int .i64 0, .int .i64 0, .int .i64 0] 57 (0, 0)), .inl (.cells #[.int .i64 n, .int .i64 d] 26 (0, 0))]).cell? ⟨P, 2, none⟩ = some (.int .i64 s.lo) := fun k => heap_cells k.h rfl
          have g3 : ∀ k : KE (lay w [.inl (.cells #[.string ⟨#[]⟩, .int .i64 0, .int .i64 0, .int .i64 0, .int .i64 0, .int .i64 0, .int .i64 0, .int .i64 0, .int .i64 0, .int .i64 0, .int .i64 0] 57 (0, 0)), .inl (.cells #[.int .i64 n, .int .i64 d] 26 (0, 0))]) P (.cells #[.string s.body, .int .i64 s.limb, .int .i64 s.lo, .int .i64 s.hi, .int .i64 s.hs, .int .i64 s.wi, .int .i64 s.hz, .int .i64 s.ey, .int .i64 s.sh, .int .i64 s.te, .int .i64 s.pr] 57 (0, 0)), (lay w [.inr k.d, .inl (.cells #[.string ⟨#[]⟩, .int .i64 0, .int .i64 0, .int .i64 0, .int .i64 0, .int .i64 0, .int .i64 0, .int .i64 0, .int .i64 0, .int .i64 0, .int .i64 0] 57 (0, 0)), .inl (.cells #[.int .i64 n, .int .i64 d] 26 (0, 0))]).cell? ⟨P, 3, none⟩ = some (.int .i64 s.hi) := fun k => heap_cells k.h rfl
          have g4 : ∀ k : KE (lay w [.inl (.cells #[.string ⟨#[]⟩, .int .i64 0, .int .i64 0, .int .i64 0, .int .i64 0, .int .i64 0, .int .i64 0, .int .i64 0, .int .i64 0, .int .i64 0, .int .i64 0] 57 (0, 0)), .inl (.cells #[.int .i64 n, .int .i64 d] 26 (0, 0))]) P (.cells #[.string s.body, .int .i64 s.limb, .int .i64 s.lo, .int .i64 s.hi, .int .i64 s.hs, .int .i64 s.wi, .int .i64 s.hz, .int .i64 s.ey, .int .i64 s.sh, .int .i64 s.te, .int .i64 s.pr] 57 (0, 0)), (lay w [.inr k.d, .inl (.cells #[.string ⟨#[]⟩, .int .i64 0, .int .i64 0, .int .i64 0, .int .i64 0, .int .i64 0, .int .i64 0, .int .i64 0, .int .i64 0, .int .i64 0, .int .i64 0] 57 (0, 0)), .inl (.cells #[.int .i64 n, .int .i64 d] 26 (0, 0))]).cell? ⟨P, 4, none⟩ = some (.int .i64 s.hs) := fun k => heap_cells k.h rfl
          have g5 : ∀ k : KE (lay w [.inl (.cells #[.string ⟨#[]⟩, .int .i64 0, .int .i64 0, .int .i64 0, .int .i64 0, .int .i64 0, .int .i64 0, .int .i64 0, .int .i64 0, .int .i64 0, .int .i64 0] 57 (0, 0)), .inl (.cells #[.int .i64 n, .int .i64 d] 26 (0, 0))]) P (.cells #[.string s.body, .int .i64 s.limb, .int .i64 s.lo, .int .i64 s.hi, .int .i64 s.hs, .int .i64 s.wi, .int .i64 s.hz, .int .i64 s.ey, .int .i64 s.sh, .int .i64 s.te, .int .i64 s.pr] 57 (0, 0)), (lay w [.inr k.d, .inl (.cells #[.string ⟨#[]⟩, .int .i64 0, .int .i64 0, .int .i64 0, .int .i64 0, .int .i64 0, .int .i64 0, .int .i64 0, .int .i64 0, .int .i64 0, .int .i64 0] 57 (0, 0)), .inl (.cells #[.int .i64 n, .int .i64 d] 26 (0, 0))]).cell? ⟨P, 5, none⟩ = some (.int .i64 s.wi) := fun k => heap_cells k.h rfl
          have g6 : ∀ k : KE (lay w [.inl (.cells #[.string ⟨#[]⟩, .int .i64 0, .int .i64 0, .int .i64 0, .int .i64 0, .int .i64 0, .int .i64 0, .int .i64 0, .int .i64 0, .int .i64 0, .int .i64 0] 57 (0, 0)), .inl (.cells #[.int .i64 n, .int .i64 d] 26 (0, 0))]) P (.cells #[.string s.body, .int .i64 s.limb, .int .i64 s.lo, .int .i64 s.hi, .int .i64 s.hs, .int .i64 s.wi, .int .i64 s.hz, .int .i64 s.ey, .int .i64 s.sh, .int .i64 s.te, .int .i64 s.pr] 57 (0, 0)), (lay w [.inr k.d, .inl (.cells #[.string ⟨#[]⟩, .int .i64 0, .int .i64 0, .int .i64 0, .int .i64 0, .int .i64 0, .int .i64 0, .int .i64 0, .int .i64 0, .int .i64 0, .int .i64 0] 57 (0, 0)), .inl (.cells #[.int .i64 n, .int .i64 d] 26 (0, 0))]).cell? ⟨P, 6, none⟩ = some (.int .i64 s.hz) := fun k => heap_cells k.h rfl
          have g7 : ∀ k : KE (lay w [.inl (.cells #[.string ⟨#[]⟩, .int .i64 0, .int .i64 0, .int .i64 0, .int .i64 0, .int .i64 0, .int .i64 0, .int .i64 0, .int .i64 0, .int .i64 0, .int .i64 0] 57 (0, 0)), .inl (.cells #[.int .i64 n, .int .i64 d] 26 (0, 0))]) P (.cells #[.string s.body, .int .i64 s.limb, .int .i64 s.lo, .int .i64 s.hi, .int .i64 s.hs, .int .i64 s.wi, .int .i64 s.hz, .int .i64 s.ey, .int .i64 s.sh, .int .i64 s.te, .int .i64 s.pr] 57 (0, 0)), (lay w [.inr k.d, .inl (.cells #[.string ⟨#[]⟩, .int .i64 0, .int .i64 0, .int .i64 0, .int .i64 0, .int .i64 0, .int .i64 0, .int .i64 0, .int .i64 0, .int .i64 0, .int .i64 0] 57 (0, 0)), .inl (.cells #[.int .i64 n, .int .i64 d] 26 (0, 0))]).cell? ⟨P, 7, none⟩ = some (.int .i64 s.ey) := fun k => heap_cells k.h rfl
          have g8 : ∀ k : KE (lay w [.inl (.cells #[.string ⟨#[]⟩, .int .i64 0, .int .i64 0, .int .i64 0, .int .i64 0, .int .i64 0, .int .i64 0, .int .i64 0, .int .i64 0, .int .i64 0, .int .i64 0] 57 (0, 0)), .inl (.cells #[.int .i64 n, .int .i64 d] 26 (0, 0))]) P (.cells #[.string s.body, .int .i64 s.limb, .int .i64 s.lo, .int .i64 s.hi, .int .i64 s.hs, .int .i64 s.wi, .int .i64 s.hz, .int .i64 s.ey, .int .i64 s.sh, .int .i64 s.te, .int .i64 s.pr] 57 (0, 0)), (lay w [.inr k.d, .inl (.cells #[.string ⟨#[]⟩, .int .i64 0, .int .i64 0, .int .i64 0, .int .i64 0, .int .i64 0, .int .i64 0, .int .i64 0, .int .i64 0, .int .i64 0, .int .i64 0] 57 (0, 0)), .inl (.cells #[.int .i64 n, .int .i64 d] 26 (0, 0))]).cell? ⟨P, 8, none⟩ = some (.int .i64 s.sh) := fun k => heap_cells k.h rfl
          have g9 : ∀ k : KE (lay w [.inl (.cells #[.string ⟨#[]⟩, .int .i64 0, .int .i64 0, .int .i64 0, .int .i64 0, .int .i64 0, .int .i64 0, .int .i64 0, .int .i64 0, .int .i64 0, .int .i64 0] 57 (0, 0)), .inl (.cells #[.int .i64 n, .int .i64 d] 26 (0, 0))]) P (.cells #[.string s.body, .int .i64 s.limb, .int .i64 s.lo, .int .i64 s.hi, .int .i64 s.hs, .int .i64 s.wi, .int .i64 s.hz, .int .i64 s.ey, .int .i64 s.sh, .int .i64 s.te, .int .i64 s.pr] 57 (0, 0)), (lay w [.inr k.d, .inl (.cells #[.string ⟨#[]⟩, .int .i64 0, .int .i64 0, .int .i64 0, .int .i64 0, .int .i64 0, .int .i64 0, .int .i64 0, .int .i64 0, .int .i64 0, .int .i64 0] 57 (0, 0)), .inl (.cells #[.int .i64 n, .int .i64 d] 26 (0, 0))]).cell? ⟨P, 9, none⟩ = some (.int .i64 s.te) := fun k => heap_cells k.h rfl
          have g10 : ∀ k : KE (lay w [.inl (.cells #[.string ⟨#[]⟩, .int .i64 0, .int .i64 0, .int .i64 0, .int .i64 0, .int .i64 0, .int .i64 0, .int .i64 0, .int .i64 0, .int .i64 0, .int .i64 0] 57 (0, 0)), .inl (.cells #[.int .i64 n, .int .i64 d] 26 (0, 0))]) P (.cells #[.string s.body, .int .i64 s.limb, .int .i64 s.lo, .int .i64 s.hi, .int .i64 s.hs, .int .i64 s.wi, .int .i64 s.hz, .int .i64 s.ey, .int .i64 s.sh, .int .i64 s.te, .int .i64 s.pr] 57 (0, 0)), (lay w [.inr k.d, .inl (.cells #[.string ⟨#[]⟩, .int .i64 0, .int .i64 0, .int .i64 0, .int .i64 0, .int .i64 0, .int .i64 0, .int .i64 0, .int .i64 0, .int .i64 0, .int .i64 0] 57 (0, 0)), .inl (.cells #[.int .i64 n, .int .i64 d] 26 (0, 0))]).cell? ⟨P, 10, none⟩ = some (.int .i64 s.pr) := fun k => heap_cells k.h rfl
          simp only [List.drop_succ_cons, List.drop_zero]
          repeat (refine wpMB_quiet rfl (fun K hK => ?_); go_simp; first | (refine hK _ ?_; clear hK K) | (apply Exists.intro; refine ⟨fun _ => ?_, hK _ ?_⟩; (first | (go_at_call 54; first | (with_reducible refine bq (HMs.out _) ?_; exact (fun d => ⟨d, rfl⟩)) | (with_reducible refine bq (HM0.out _) ?_; exact (fun d => ⟨d, rfl⟩)))); clear hK K))
          have HB1 : Hid (∀ {j : Nat}, Value.ownBlock _ = some j → j < P) := Lib.hid (fun e => by have h := (HT.out.o1.own_lt e).2; rw [hPs] at h; exact h)
          have HB2 : Hid (∀ {j : Nat}, Value.ownBlock _ = some j → j < P) := Lib.hid (fun e => by have h := (HT.out.o2.own_lt e).2; rw [hPs] at h; exact h)
          clear g0 g1 g2 g3 g4 g5 g6 g7 g8 g9 g10
          refine wpMB_two ?_ ?_
          · refine spB_of rfl (fun K hK d2 => ?_)
            go_simp
            refine hK _ _ (in_lay (A := [.inl (.cells #[.int .i64 (M - M0)] 3 (0, 0)), .inr d2]) hsg) ?_
            clear hK K
            refine wpMB_two ?_ ?_
            · refine spB_intO (W0 := lay w [.inl (.cells #[.string ⟨#[]⟩, .int .i64 0, .int .i64 0, .int .i64 0, .int .i64 0, .int .i64 0, .int .i64 0, .int .i64 0, .int .i64 0, .int .i64 0, .int .i64 0] 57 (0, 0)), .inl (.cells #[.int .i64 n, .int .i64 d] 26 (0, 0))]) rfl rfl _ _ rfl (M - M0) 3 _ _ L1 [(_, L2)] (lay_below (A := [.inl (.cells #[.int .i64 (M - M0)] 3 (0, 0)), .inr d2, .inr e0])) (ow_on (A := [.inl (.cells #[.int .i64 (M - M0)] 3 (0, 0)), .inr d2]) HT0.out.o1) (TwR.on (A := [.inl (.cells #[.int .i64 (M - M0)] 3 (0, 0)), .inr d2]) HT0.out).others1 (lay_get w [.inl (.cells #[.int .i64 (M - M0)] 3 (0, 0)), .inr d2, .inr e0, .inl (.cells #[.string ⟨#[]⟩, .int .i64 0, .int .i64 0, .int .i64 0, .int .i64 0, .int .i64 0, .int .i64 0, .int .i64 0, .int .i64 0, .int .i64 0, .int .i64 0] 57 (0, 0)), .inl (.cells #[.int .i64 n, .int .i64 d] 26 (0, 0))] 0 _ rfl) rfl rfl n1 lw1 (fun x hk => ⟨⟨x, (hk P (keL (A := [.inl (.cells #[.int .i64 (M - M0)] 3 (0, 0)), .inr d2]) hsg) (fun e => Nat.lt_irrefl _ (HB1.out e))).trans (keP (A := [.inl (.cells #[.int .i64 (M - M0)] 3 (0, 0)), .inr d2]) hsg)⟩, rfl⟩) ?_
              intro v1 d1 h1 g1 hk1
              have HR1 := Lib.hid (twR1 h1 g1)
              change Hid (TwR (lay w [.inr d1, .inl (.cells #[.string ⟨#[]⟩, .int .i64 0, .int .i64 0, .int .i64 0, .int .i64 0, .int .i64 0, .int .i64 0, .int .i64 0, .int .i64 0, .int .i64 0, .int .i64 0] 57 (0, 0)), .inl (.cells #[.int .i64 n, .int .i64 d] 26 (0, 0))]) _ _ _ _ _) at HR1
              rw [lay_bw]
              have hsg1 : (lay w [.inr d1, .inl (.cells #[.string ⟨#[]⟩, .int .i64 0, .int .i64 0, .int .i64 0, .int .i64 0, .int .i64 0, .int .i64 0, .int .i64 0, .int .i64 0, .int .i64 0, .int .i64 0] 57 (0, 0)), .inl (.cells #[.int .i64 n, .int .i64 d] 26 (0, 0))]).heap[P]? = _ := (hk1 P (keL (A := [.inl (.cells #[.int .i64 (M - M0)] 3 (0, 0)), .inr d2]) hsg) (fun e => Nat.lt_irrefl _ (HB1.out e))).trans (keP (A := [.inl (.cells #[.int .i64 (M - M0)] 3 (0, 0)), .inr d2]) hsg)
              clear h1 g1
              refine wpMB_one ?_
              refine spB_of rfl (fun K hK d3 => ?_)
              go_simp
              refine hK _ _ (in_lay (A := [.inl (.cells #[.int .i64 s.hs] 3 (0, 0)), .inr d3]) hsg1) ?_
              clear hK K
              refine wpMB_one ?_
              refine spB_intO (W0 := lay w [.inl (.cells #[.string ⟨#[]⟩, .int .i64 0, .int .i64 0, .int .i64 0, .int .i64 0, .int .i64 0, .int .i64 0, .int .i64 0, .int .i64 0, .int .i64 0, .int .i64 0] 57 (0, 0)), .inl (.cells #[.int .i64 n, .int .i64 d] 26 (0, 0))]) rfl rfl _ _ rfl s.hs 3 _ _ L2 [(_, _)] (lay_below (A := [.inl (.cells #[.int .i64 s.hs] 3 (0, 0)), .inr d3, .inr d1])) (ow_on (A := [.inl (.cells #[.int .i64 s.hs] 3 (0, 0)), .inr d3]) HR1.out.o2) (TwR.on (A := [.inl (.cells #[.int .i64 s.hs] 3 (0, 0)), .inr d3]) HR1.out).others2 (lay_get w [.inl (.cells #[.int .i64 s.hs] 3 (0, 0)), .inr d3, .inr d1, .inl (.cells #[.string ⟨#[]⟩, .int .i64 0, .int .i64 0, .int .i64 0, .int .i64 0, .int .i64 0, .int .i64 0, .int .i64 0, .int .i64 0, .int .i64 0, .int .i64 0] 57 (0, 0)), .inl (.cells #[.int .i64 n, .int .i64 d] 26 (0, 0))] 0 _ rfl) rfl rfl n2 lw2 (fun x hk => ⟨⟨x, (hk P (keL (A := [.inl (.cells #[.int .i64 s.hs] 3 (0, 0)), .inr d3]) hsg1) (fun e => Nat.lt_irrefl _ (HB2.out e))).trans (keP (A := [.inl (.cells #[.int .i64 s.hs] 3 (0, 0)), .inr d3]) hsg1)⟩, rfl⟩) ?_
              intro v2 d6 h2 g2 hk2
              have HR2 := Lib.hid (twR2 h2 g2)
              change Hid (TwR (lay w [.inr d6, .inl (.cells #[.string ⟨#[]⟩, .int .i64 0, .int .i64 0, .int .i64 0, .int .i64 0, .int .i64 0, .int .i64 0, .int .i64 0, .int .i64 0, .int .i64 0, .int .i64 0] 57 (0, 0)), .inl (.cells #[.int .i64 n, .int .i64 d] 26 (0, 0))]) _ _ _ _ _) at HR2
              clear h2 g2
              refine wpMB_done (fun d7 => ?_)
              show wpList _ _ _ _ _ _
              obtain ⟨d8, e8⟩ : ∃ x, bw (bw (lay w [.inl (.cells #[.string ⟨#[]⟩, .int .i64 0, .int .i64 0, .int .i64 0, .int .i64 0, .int .i64 0, .int .i64 0, .int .i64 0, .int .i64 0, .int .i64 0, .int .i64 0] 57 (0, 0)), .inl (.cells #[.int .i64 n, .int .i64 d] 26 (0, 0))]) d6) d7 = lay w [.inr x, .inl (.cells #[.string ⟨#[]⟩, .int .i64 0, .int .i64 0, .int .i64 0, .int .i64 0, .int .i64 0, .int .i64 0, .int .i64 0, .int .i64 0, .int .i64 0, .int .i64 0] 57 (0, 0)), .inl (.cells #[.int .i64 n, .int .i64 d] 26 (0, 0))] := ⟨_, bw_bw _ _ _⟩
              have HR3 := Lib.hid (TwR.on (A := [.inr d7]) (B := [.inr d6, .inl (.cells #[.string ⟨#[]⟩, .int .i64 0, .int .i64 0, .int .i64 0, .int .i64 0, .int .i64 0, .int .i64 0, .int .i64 0, .int .i64 0, .int .i64 0, .int .i64 0] 57 (0, 0)), .inl (.cells #[.int .i64 n, .int .i64 d] 26 (0, 0))]) HR2.out)
              change Hid (TwR (bw (bw (lay w [.inl (.cells #[.string ⟨#[]⟩, .int .i64 0, .int .i64 0, .int .i64 0, .int .i64 0, .int .i64 0, .int .i64 0, .int .i64 0, .int .i64 0, .int .i64 0, .int .i64 0] 57 (0, 0)), .inl (.cells #[.int .i64 n, .int .i64 d] 26 (0, 0))]) d6) d7) _ _ _ _ _) at HR3
              rw [e8] at HR3 ⊢
              clear e8 hk2
              go_wp2_with fail
              go_roundw
              case rel => exact ⟨k + 1, d8, hlt, by go_num, rfl, by rw [T1.out, T2.out]; exact HR3.out⟩
              case measure => simp [intOf]; omega
            · refine spB_of rfl (fun K hK d3 => ?_)
              go_simp
              refine hK _ _ (in_lay (A := [.inl (.cells #[.int .i64 s.hs] 3 (0, 0)), .inr d3, .inl (.cells #[.int .i64 (M - M0)] 3 (0, 0)), .inr d2]) hsg) ?_
              clear hK K
              refine wpMB_one ?_
              refine spB_intO (W0 := lay w [.inl (.cells #[.string ⟨#[]⟩, .int .i64 0, .int .i64 0, .int .i64 0, .int .i64 0, .int .i64 0, .int .i64 0, .int .i64 0, .int .i64 0, .int .i64 0, .int .i64 0] 57 (0, 0)), .inl (.cells #[.int .i64 n, .int .i64 d] 26 (0, 0))]) rfl rfl _ _ rfl (M - M0) 3 _ _ L1 [(_, L2)] (lay_below (A := [.inl (.cells #[.int .i64 s.hs] 3 (0, 0)), .inr d3, .inl (.cells #[.int .i64 (M - M0)] 3 (0, 0)), .inr d2, .inr e0])) (ow_on (A := [.inl (.cells #[.int .i64 s.hs] 3 (0, 0)), .inr d3, .inl (.cells #[.int .i64 (M - M0)] 3 (0, 0)), .inr d2]) HT0.out.o1) (TwR.on (A := [.inl (.cells #[.int .i64 s.hs] 3 (0, 0)), .inr d3, .inl (.cells #[.int .i64 (M - M0)] 3 (0, 0)), .inr d2]) HT0.out).others1 (lay_get w [.inl (.cells #[.int .i64 s.hs] 3 (0, 0)), .inr d3, .inl (.cells #[.int .i64 (M - M0)] 3 (0, 0)), .inr d2, .inr e0, .inl (.cells #[.string ⟨#[]⟩, .int .i64 0, .int .i64 0, .int .i64 0, .int .i64 0, .int .i64 0, .int .i64 0, .int .i64 0, .int .i64 0, .int .i64 0, .int .i64 0] 57 (0, 0)), .inl (.cells #[.int .i64 n, .int .i64 d] 26 (0, 0))] 2 _ rfl) rfl rfl n1 lw1 (fun x hk => ⟨⟨x, (hk P (keL (A := [.inl (.cells #[.int .i64 s.hs] 3 (0, 0)), .inr d3, .inl (.cells #[.int .i64 (M - M0)] 3 (0, 0)), .inr d2]) hsg) (fun e => Nat.lt_irrefl _ (HB1.out e))).trans (keP (A := [.inl (.cells #[.int .i64 s.hs] 3 (0, 0)), .inr d3, .inl (.cells #[.int .i64 (M - M0)] 3 (0, 0)), .inr d2]) hsg)⟩, rfl⟩) ?_
              intro v1 d1 h1 g1 hk1
              have HR1 := Lib.hid (twR1 h1 g1)
              change Hid (TwR (lay w [.inr d1, .inl (.cells #[.string ⟨#[]⟩, .int .i64 0, .int .i64 0, .int .i64 0, .int .i64 0, .int .i64 0, .int .i64 0, .int .i64 0, .int .i64 0, .int .i64 0, .int .i64 0] 57 (0, 0)), .inl (.cells #[.int .i64 n, .int .i64 d] 26 (0, 0))]) _ _ _ _ _) at HR1
              rw [lay_bw]
              have hsg1 : (lay w [.inr d1, .inl (.cells #[.string ⟨#[]⟩, .int .i64 0, .int .i64 0, .int .i64 0, .int .i64 0, .int .i64 0, .int .i64 0, .int .i64 0, .int .i64 0, .int .i64 0, .int .i64 0] 57 (0, 0)), .inl (.cells #[.int .i64 n, .int .i64 d] 26 (0, 0))]).heap[P]? = _ := (hk1 P (keL (A := [.inl (.cells #[.int .i64 s.hs] 3 (0, 0)), .inr d3, .inl (.cells #[.int .i64 (M - M0)] 3 (0, 0)), .inr d2]) hsg) (fun e => Nat.lt_irrefl _ (HB1.out e))).trans (keP (A := [.inl (.cells #[.int .i64 s.hs] 3 (0, 0)), .inr d3, .inl (.cells #[.int .i64 (M - M0)] 3 (0, 0)), .inr d2]) hsg)
              clear h1 g1
              have hcy0 := lay_get w [.inl (.cells #[.int .i64 s.hs] 3 (0, 0)), .inr d3, .inl (.cells #[.int .i64 (M - M0)] 3 (0, 0)), .inr d2, .inr e0, .inl (.cells #[.string ⟨#[]⟩, .int .i64 0, .int .i64 0, .int .i64 0, .int .i64 0, .int .i64 0, .int .i64 0, .int .i64 0, .int .i64 0, .int .i64 0, .int .i64 0] 57 (0, 0)), .inl (.cells #[.int .i64 n, .int .i64 d] 26 (0, 0))] 0 _ rfl
              have hcyP := keL (A := [.inr d3, .inl (.cells #[.int .i64 (M - M0)] 3 (0, 0)), .inr d2]) hsg
              rw [lay_size] at hcyP
              have hcy := (hk1 _ (Array.getElem?_eq_some_iff.1 hcy0).1 (fun e => Nat.lt_irrefl _ (Nat.lt_trans (HB1.out e) hcyP))).trans hcy0
              refine wpMB_one ?_
              refine spB_intO (W0 := lay w [.inl (.cells #[.string ⟨#[]⟩, .int .i64 0, .int .i64 0, .int .i64 0, .int .i64 0, .int .i64 0, .int .i64 0, .int .i64 0, .int .i64 0, .int .i64 0, .int .i64 0] 57 (0, 0)), .inl (.cells #[.int .i64 n, .int .i64 d] 26 (0, 0))]) rfl rfl _ _ rfl s.hs 3 _ _ L2 [(_, _)] (lay_below (A := [.inr d1])) HR1.out.o2 HR1.out.others2 hcy rfl rfl n2 lw2 (fun x hk => ⟨⟨x, (hk P (keL (A := []) hsg1) (fun e => Nat.lt_irrefl _ (HB2.out e))).trans hsg1⟩, rfl⟩) ?_
              intro v2 d6 h2 g2 hk2
              have HR2 := Lib.hid (twR2 h2 g2)
              change Hid (TwR (lay w [.inr d6, .inl (.cells #[.string ⟨#[]⟩, .int .i64 0, .int .i64 0, .int .i64 0, .int .i64 0, .int .i64 0, .int .i64 0, .int .i64 0, .int .i64 0, .int .i64 0, .int .i64 0] 57 (0, 0)), .inl (.cells #[.int .i64 n, .int .i64 d] 26 (0, 0))]) _ _ _ _ _) at HR2
              clear h2 g2
              refine wpMB_done (fun d7 => ?_)
              show wpList _ _ _ _ _ _
              obtain ⟨d8, e8⟩ : ∃ x, bw (bw (lay w [.inl (.cells #[.string ⟨#[]⟩, .int .i64 0, .int .i64 0, .int .i64 0, .int .i64 0, .int .i64 0, .int .i64 0, .int .i64 0, .int .i64 0, .int .i64 0, .int .i64 0] 57 (0, 0)), .inl (.cells #[.int .i64 n, .int .i64 d] 26 (0, 0))]) d6) d7 = lay w [.inr x, .inl (.cells #[.string ⟨#[]⟩, .int .i64 0, .int .i64 0, .int .i64 0, .int .i64 0, .int .i64 0, .int .i64 0, .int .i64 0, .int .i64 0, .int .i64 0, .int .i64 0] 57 (0, 0)), .inl (.cells #[.int .i64 n, .int .i64 d] 26 (0, 0))] := ⟨_, bw_bw _ _ _⟩
              have HR3 := Lib.hid (TwR.on (A := [.inr d7]) (B := [.inr d6, .inl (.cells #[.string ⟨#[]⟩, .int .i64 0, .int .i64 0, .int .i64 0, .int .i64 0, .int .i64 0, .int .i64 0, .int .i64 0, .int .i64 0, .int .i64 0, .int .i64 0] 57 (0, 0)), .inl (.cells #[.int .i64 n, .int .i64 d] 26 (0, 0))]) HR2.out)
              change Hid (TwR (bw (bw (lay w [.inl (.cells #[.string ⟨#[]⟩, .int .i64 0, .int .i64 0, .int .i64 0, .int .i64 0, .int .i64 0, .int .i64 0, .int .i64 0, .int .i64 0, .int .i64 0, .int .i64 0] 57 (0, 0)), .inl (.cells #[.int .i64 n, .int .i64 d] 26 (0, 0))]) d6) d7) _ _ _ _ _) at HR3
              rw [e8] at HR3 ⊢
              clear e8 hk2
              go_wp2_with fail
              go_roundw
              case rel => exact ⟨k + 1, d8, hlt, by go_num, rfl, by rw [T1.out, T2.out]; exact HR3.out⟩
              case measure => simp [intOf]; omega
          · refine spB_of rfl (fun K hK d2 => ?_)
            go_simp
            refine hK _ _ (in_lay (A := [.inl (.cells #[.int .i64 s.hs] 3 (0, 0)), .inr d2]) hsg) ?_
            clear hK K
            refine wpMB_one ?_
            refine spB_of rfl (fun K hK d3 => ?_)
            go_simp
            refine hK _ _ (in_lay (A := [.inl (.cells #[.int .i64 (M - M0)] 3 (0, 0)), .inr d3, .inl (.cells #[.int .i64 s.hs] 3 (0, 0)), .inr d2]) hsg) ?_
            clear hK K
            refine wpMB_one ?_
            refine spB_intO (W0 := lay w [.inl (.cells #[.string ⟨#[]⟩, .int .i64 0, .int .i64 0, .int .i64 0, .int .i64 0, .int .i64 0, .int .i64 0, .int .i64 0, .int .i64 0, .int .i64 0, .int .i64 0] 57 (0, 0)), .inl (.cells #[.int .i64 n, .int .i64 d] 26 (0, 0))]) rfl rfl _ _ rfl (M - M0) 3 _ _ L1 [(_, L2)] (lay_below (A := [.inl (.cells #[.int .i64 (M - M0)] 3 (0, 0)), .inr d3, .inl (.cells #[.int .i64 s.hs] 3 (0, 0)), .inr d2, .inr e0])) (ow_on (A := [.inl (.cells #[.int .i64 (M - M0)] 3 (0, 0)), .inr d3, .inl (.cells #[.int .i64 s.hs] 3 (0, 0)), .inr d2]) HT0.out.o1) (TwR.on (A := [.inl (.cells #[.int .i64 (M - M0)] 3 (0, 0)), .inr d3, .inl (.cells #[.int .i64 s.hs] 3 (0, 0)), .inr d2]) HT0.out).others1 (lay_get w [.inl (.cells #[.int .i64 (M - M0)] 3 (0, 0)), .inr d3, .inl (.cells #[.int .i64 s.hs] 3 (0, 0)), .inr d2, .inr e0, .inl (.cells #[.string ⟨#[]⟩, .int .i64 0, .int .i64 0, .int .i64 0, .int .i64 0, .int .i64 0, .int .i64 0, .int .i64 0, .int .i64 0, .int .i64 0, .int .i64 0] 57 (0, 0)), .inl (.cells #[.int .i64 n, .int .i64 d] 26 (0, 0))] 0 _ rfl) rfl rfl n1 lw1 (fun x hk => ⟨⟨x, (hk P (keL (A := [.inl (.cells #[.int .i64 (M - M0)] 3 (0, 0)), .inr d3, .inl (.cells #[.int .i64 s.hs] 3 (0, 0)), .inr d2]) hsg) (fun e => Nat.lt_irrefl _ (HB1.out e))).trans (keP (A := [.inl (.cells #[.int .i64 (M - M0)] 3 (0, 0)), .inr d3, .inl (.cells #[.int .i64 s.hs] 3 (0, 0)), .inr d2]) hsg)⟩, rfl⟩) ?_
            intro v1 d1 h1 g1 hk1
            have HR1 := Lib.hid (twR1 h1 g1)
            change Hid (TwR (lay w [.inr d1, .inl (.cells #[.string ⟨#[]⟩, .int .i64 0, .int .i64 0, .int .i64 0, .int .i64 0, .int .i64 0, .int .i64 0, .int .i64 0, .int .i64 0, .int .i64 0, .int .i64 0] 57 (0, 0)), .inl (.cells #[.int .i64 n, .int .i64 d] 26 (0, 0))]) _ _ _ _ _) at HR1
            rw [lay_bw]
            have hsg1 : (lay w [.inr d1, .inl (.cells #[.string ⟨#[]⟩, .int .i64 0, .int .i64 0, .int .i64 0, .int .i64 0, .int .i64 0, .int .i64 0, .int .i64 0, .int .i64 0, .int .i64 0, .int .i64 0] 57 (0, 0)), .inl (.cells #[.int .i64 n, .int .i64 d] 26 (0, 0))]).heap[P]? = _ := (hk1 P (keL (A := [.inl (.cells #[.int .i64 (M - M0)] 3 (0, 0)), .inr d3, .inl (.cells #[.int .i64 s.hs] 3 (0, 0)), .inr d2]) hsg) (fun e => Nat.lt_irrefl _ (HB1.out e))).trans (keP (A := [.inl (.cells #[.int .i64 (M - M0)] 3 (0, 0)), .inr d3, .inl (.cells #[.int .i64 s.hs] 3 (0, 0)), .inr d2]) hsg)
            clear h1 g1
            have hcy0 := lay_get w [.inl (.cells #[.int .i64 (M - M0)] 3 (0, 0)), .inr d3, .inl (.cells #[.int .i64 s.hs] 3 (0, 0)), .inr d2, .inr e0, .inl (.cells #[.string ⟨#[]⟩, .int .i64 0, .int .i64 0, .int .i64 0, .int .i64 0, .int .i64 0, .int .i64 0, .int .i64 0, .int .i64 0, .int .i64 0, .int .i64 0] 57 (0, 0)), .inl (.cells #[.int .i64 n, .int .i64 d] 26 (0, 0))] 2 _ rfl
            have hcyP := keL (A := [.inr d2]) hsg
            rw [lay_size] at hcyP
            have hcy := (hk1 _ (Array.getElem?_eq_some_iff.1 hcy0).1 (fun e => Nat.lt_irrefl _ (Nat.lt_trans (HB1.out e) hcyP))).trans hcy0
            refine wpMB_one ?_
            refine spB_intO (W0 := lay w [.inl (.cells #[.string ⟨#[]⟩, .int .i64 0, .int .i64 0, .int .i64 0, .int .i64 0, .int .i64 0, .int .i64 0, .int .i64 0, .int .i64 0, .int .i64 0, .int .i64 0] 57 (0, 0)), .inl (.cells #[.int .i64 n, .int .i64 d] 26 (0, 0))]) rfl rfl _ _ rfl s.hs 3 _ _ L2 [(_, _)] (lay_below (A := [.inr d1])) HR1.out.o2 HR1.out.others2 hcy rfl rfl n2 lw2 (fun x hk => ⟨⟨x, (hk P (keL (A := []) hsg1) (fun e => Nat.lt_irrefl _ (HB2.out e))).trans hsg1⟩, rfl⟩) ?_
            intro v2 d6 h2 g2 hk2
            have HR2 := Lib.hid (twR2 h2 g2)
            change Hid (TwR (lay w [.inr d6, .inl (.cells #[.string ⟨#[]⟩, .int .i64 0, .int .i64 0, .int .i64 0, .int .i64 0, .int .i64 0, .int .i64 0, .int .i64 0, .int .i64 0, .int .i64 0, .int .i64 0] 57 (0, 0)), .inl (.cells #[.int .i64 n, .int .i64 d] 26 (0, 0))]) _ _ _ _ _) at HR2
            clear h2 g2
            refine wpMB_done (fun d7 => ?_)
            show wpList _ _ _ _ _ _
            obtain ⟨d8, e8⟩ : ∃ x, bw (bw (lay w [.inl (.cells #[.string ⟨#[]⟩, .int .i64 0, .int .i64 0, .int .i64 0, .int .i64 0, .int .i64 0, .int .i64 0, .int .i64 0, .int .i64 0, .int .i64 0, .int .i64 0] 57 (0, 0)), .inl (.cells #[.int .i64 n, .int .i64 d] 26 (0, 0))]) d6) d7 = lay w [.inr x, .inl (.cells #[.string ⟨#[]⟩, .int .i64 0, .int .i64 0, .int .i64 0, .int .i64 0, .int .i64 0, .int .i64 0, .int .i64 0, .int .i64 0, .int .i64 0, .int .i64 0] 57 (0, 0)), .inl (.cells #[.int .i64 n, .int .i64 d] 26 (0, 0))] := ⟨_, bw_bw _ _ _⟩
            have HR3 := Lib.hid (TwR.on (A := [.inr d7]) (B := [.inr d6, .inl (.cells #[.string ⟨#[]⟩, .int .i64 0, .int .i64 0, .int .i64 0, .int .i64 0, .int .i64 0, .int .i64 0, .int .i64 0, .int .i64 0, .int .i64 0, .int .i64 0] 57 (0, 0)), .inl (.cells #[.int .i64 n, .int .i64 d] 26 (0, 0))]) HR2.out)
            change Hid (TwR (bw (bw (lay w [.inl (.cells #[.string ⟨#[]⟩, .int .i64 0, .int .i64 0, .int .i64 0, .int .i64 0, .int .i64 0, .int .i64 0, .int .i64 0, .int .i64 0, .int .i64 0, .int .i64 0] 57 (0, 0)), .inl (.cells #[.int .i64 n, .int .i64 d] 26 (0, 0))]) d6) d7) _ _ _ _ _) at HR3
            rw [e8] at HR3 ⊢
            clear e8 hk2
            go_wp2_with fail
            go_roundw
            case rel => exact ⟨k + 1, d8, hlt, by go_num, rfl, by rw [T1.out, T2.out]; exact HR3.out⟩
            case measure => simp [intOf]; omega
      · obtain rfl : k = m := by omega
        have x9 : ¬ (k : Int) < (k : Int) := by omega
        rw [show (tsS l).take k = tsS l by rw [← HTl.out, List.take_length], show (rdS l).take k = rdS l by rw [← HRl.out, List.take_length]] at HT
        obtain ⟨g10, c10, hv10, -, -, -⟩ := HT.out.o1.form1 (by rw [HTl.out]; exact o1)
        rw [HTl.out] at hv10
        subst hv10
        go_wp2_with fail
        refine (HRes.out _ _ _ HT.out.o1.sl HT.out.o2.sl).mono ?_
        rintro e w' ⟨vr, dR, rfl, rfl, hr⟩
        rw [lay_bw] at hr ⊢
        have HRr := Lib.hid hr.sl
        clear hr
        go_wp2_with fail
        refine (HRej.out _ _ HRr.out).mono ?_
        rintro e w' ⟨vo, dO, rfl, rfl, ho⟩
        rw [lay_bw] at ho ⊢
        have HOut0 := Lib.hid ho
        clear ho HRr
        obtain ⟨dE, eE⟩ := lay_fold w [.inr dO, .inr dR, .inr dd] [.inl (.cells #[.string ⟨#[]⟩, .int .i64 0, .int .i64 0, .int .i64 0, .int .i64 0, .int .i64 0, .int .i64 0, .int .i64 0, .int .i64 0, .int .i64 0, .int .i64 0] 57 (0, 0)), .inl (.cells #[.int .i64 n, .int .i64 d] 26 (0, 0))]
        change lay w [.inr dO, .inr dR, .inr dd, .inl (.cells #[.string ⟨#[]⟩, .int .i64 0, .int .i64 0, .int .i64 0, .int .i64 0, .int .i64 0, .int .i64 0, .int .i64 0, .int .i64 0, .int .i64 0, .int .i64 0] 57 (0, 0)), .inl (.cells #[.int .i64 n, .int .i64 d] 26 (0, 0))] = lay w [.inr dE, .inl (.cells #[.string ⟨#[]⟩, .int .i64 0, .int .i64 0, .int .i64 0, .int .i64 0, .int .i64 0, .int .i64 0, .int .i64 0, .int .i64 0, .int .i64 0, .int .i64 0] 57 (0, 0)), .inl (.cells #[.int .i64 n, .int .i64 d] 26 (0, 0))] at eE
        have HTt := Lib.hid (ow_on (A := [.inr dO, .inr dR]) HT.out.o1)
        change Hid (Ow (lay w [.inr dO, .inr dR, .inr dd, .inl (.cells #[.string ⟨#[]⟩, .int .i64 0, .int .i64 0, .int .i64 0, .int .i64 0, .int .i64 0, .int .i64 0, .int .i64 0, .int .i64 0, .int .i64 0, .int .i64 0] 57 (0, 0)), .inl (.cells #[.int .i64 n, .int .i64 d] 26 (0, 0))]) _ _ _) at HTt
        have HOut1 := Lib.hid (HOut0.out.le (show (lay w [.inl (.cells #[.string ⟨#[]⟩, .int .i64 0, .int .i64 0, .int .i64 0, .int .i64 0, .int .i64 0, .int .i64 0, .int .i64 0, .int .i64 0, .int .i64 0, .int .i64 0] 57 (0, 0)), .inl (.cells #[.int .i64 n, .int .i64 d] 26 (0, 0))]).heap.size ≤ _ from (lay_below (A := [.inr dR, .inr dd]) (B := [.inl (.cells #[.string ⟨#[]⟩, .int .i64 0, .int .i64 0, .int .i64 0, .int .i64 0, .int .i64 0, .int .i64 0, .int .i64 0, .int .i64 0, .int .i64 0, .int .i64 0] 57 (0, 0)), .inl (.cells #[.int .i64 n, .int .i64 d] 26 (0, 0))])).size))
        rw [eE] at HTt HOut1 ⊢
        clear HOut0 eE HT HRes HRej
        have HAb := Lib.hid (fun j (hj : j ≤ k) => acc_bd HO.out (outS l n d f) j (by rw [HM.out]; exact hj))
        have HAs : Hid (∀ j, accS l (outS l n d f) (j + 1) = if (outS l n d f).contains (j : Int) then accS l (outS l n d f) j else
          ⟨(accS l (outS l n d f) j).n + 1, (accS l (outS l n d f) j).ti + nth (tsS l) j, (accS l (outS l n d f) j).re + (getS l j).hs, (accS l (outS l n d f) j).wi + (getS l j).wi,
            mx (accS l (outS l n d f) j).be (midI (getS l j) - (getS l j).lo), mx (accS l (outS l n d f) j).af ((getS l j).hi - midI (getS l j))⟩) := Lib.hid fun _ => rfl
        have HA0 : Hid (accS l (outS l n d f) 0 = ⟨0, 0, 0, 0, 0, 0⟩) := Lib.hid rfl
        obtain ⟨OUT, hOUT⟩ : ∃ OUT, outS l n d f = OUT := ⟨_, rfl⟩
        have HOUT := Lib.hid hOUT
        rw [hOUT] at HAb HAs HA0 HOut1
        clear hOUT
        obtain ⟨ACC, hACC⟩ : ∃ ACC, accS l OUT = ACC := ⟨_, rfl⟩
        have HACC := Lib.hid hACC
        rw [hACC] at HAb HAs HA0
        clear hACC
        go_wp2_with fail
        go_loopw [16, 17, 18, 19, 20, 21, 73] (fun v16 v17 v18 v19 v20 v21 v73 wr => ∃ (j : Nat) (dd : Ext), j ≤ k ∧ v73 = .int .i64 (j : Int) ∧ v16 = .int .i64 (ACC j).n ∧ v17 = .int .i64 (ACC j).ti ∧ v18 = .int .i64 (ACC j).re ∧ v19 = .int .i64 (ACC j).wi ∧ v20 = .int .i64 (ACC j).be ∧ v21 = .int .i64 (ACC j).af ∧ wr = lay w [.inr dd, .inr dE, .inl (.cells #[.string ⟨#[]⟩, .int .i64 0, .int .i64 0, .int .i64 0, .int .i64 0, .int .i64 0, .int .i64 0, .int .i64 0, .int .i64 0, .int .i64 0, .int .i64 0] 57 (0, 0)), .inl (.cells #[.int .i64 n, .int .i64 d] 26 (0, 0))]) (fun _ _ _ _ _ _ v73 _ => k - (intOf v73).toNat)
        case atStart => exact ⟨0, noExt _, Nat.zero_le _, rfl, by rw [HA0.out], by rw [HA0.out], by rw [HA0.out], by rw [HA0.out], by rw [HA0.out], by rw [HA0.out], (bw_noExt _).symm⟩
        case round =>
          obtain ⟨j, dj, hj, rfl, rfl, rfl, rfl, rfl, rfl, rfl, rfl⟩ := hrel
          by_cases hlt : j < k
          · obtain ⟨c0, c1, c2, c3, c4, c5, c6, c7, c8, c9, c10⟩ := HC.out j hlt
            have x1 : (j : Int) < (k : Int) := by omega
            have x0 : (0 : Int) ≤ (j : Int) := by omega
            have hv := HO.out.get (by rw [HM.out]; exact hlt)
            have HMs := Lib.hid (fun W => av_middle (getS l j) W hv.t)
            have hm1 := hv.t.mid
            have hT := hv.t
            have ht1 := HO.out.t (by rw [HM.out]; exact hlt)
            have hhs := hv.hs
            have hwi := hv.wi
            have hT1 := hT.lo
            have hT2 := hT.hi
            have ct0 := (ow_on (A := [.inl (.cells #[.string (getS l j).body, .int .i64 (getS l j).limb, .int .i64 (getS l j).lo, .int .i64 (getS l j).hi, .int .i64 (getS l j).hs, .int .i64 (getS l j).wi, .int .i64 (getS l j).hz, .int .i64 (getS l j).ey, .int .i64 (getS l j).sh, .int .i64 (getS l j).te, .int .i64 (getS l j).pr] 57 (0, 0)), .inr dj]) HTt.out).cell (i := j) (by rw [HTl.out]; exact hlt)
            change (lay w [.inl (.cells #[.string (getS l j).body, .int .i64 (getS l j).limb, .int .i64 (getS l j).lo, .int .i64 (getS l j).hi, .int .i64 (getS l j).hs, .int .i64 (getS l j).wi, .int .i64 (getS l j).hz, .int .i64 (getS l j).ey, .int .i64 (getS l j).sh, .int .i64 (getS l j).te, .int .i64 (getS l j).pr] 57 (0, 0)), .inr dj, .inr dE, .inl (.cells #[.string ⟨#[]⟩, .int .i64 0, .int .i64 0, .int .i64 0, .int .i64 0, .int .i64 0, .int .i64 0, .int .i64 0, .int .i64 0, .int .i64 0, .int .i64 0] 57 (0, 0)), .inl (.cells #[.int .i64 n, .int .i64 d] 26 (0, 0))]).cell? _ = _ at ct0
            have HOo := Lib.hid (sl_on (A := [.inl (.cells #[.string (getS l j).body, .int .i64 (getS l j).limb, .int .i64 (getS l j).lo, .int .i64 (getS l j).hi, .int .i64 (getS l j).hs, .int .i64 (getS l j).wi, .int .i64 (getS l j).hz, .int .i64 (getS l j).ey, .int .i64 (getS l j).sh, .int .i64 (getS l j).te, .int .i64 (getS l j).pr] 57 (0, 0)), .inr dj]) HOut1.out.sl)
            change Hid (Sl (lay w [.inl (.cells #[.string (getS l j).body, .int .i64 (getS l j).limb, .int .i64 (getS l j).lo, .int .i64 (getS l j).hi, .int .i64 (getS l j).hs, .int .i64 (getS l j).wi, .int .i64 (getS l j).hz, .int .i64 (getS l j).ey, .int .i64 (getS l j).sh, .int .i64 (getS l j).te, .int .i64 (getS l j).pr] 57 (0, 0)), .inr dj, .inr dE, .inl (.cells #[.string ⟨#[]⟩, .int .i64 0, .int .i64 0, .int .i64 0, .int .i64 0, .int .i64 0, .int .i64 0, .int .i64 0, .int .i64 0, .int .i64 0, .int .i64 0] 57 (0, 0)), .inl (.cells #[.int .i64 n, .int .i64 d] 26 (0, 0))]) _ _) at HOo
            have HCn := Lib.hid (sl_Contains vo OUT (j : Int) _ HOo.out)
            have hst := HAs.out j
            obtain ⟨n0, n1, t0, t1, r0, r1, w0, w1, b0, b1, a0, a1⟩ := HAb.out j hj
            generalize getS l j = s at *
            generalize nth (tsS l) j = tj at *
            rw [sg_val] at HMs
            obtain ⟨A, hA⟩ : ∃ A, ACC j = A := ⟨_, rfl⟩
            rw [hA] at hst n0 n1 t0 t1 r0 r1 w0 w1 b0 b1 a0 a1 ⊢
            cases hC : OUT.contains (j : Int)
            · rw [hC] at HCn hst
              rw [if_neg (by decide)] at hst
              have HST := Lib.hid hst
              generalize midI s = M at *
              have k1 : IntKind.i64.wrap (A.n + 1) = A.n + 1 := IntWalk.i64_in _ (by omega)
              have k2 : IntKind.i64.wrap (A.ti + tj) = A.ti + tj := IntWalk.i64_in _ (by omega)
              have k3 : IntKind.i64.wrap (A.re + s.hs) = A.re + s.hs := IntWalk.i64_in _ (by omega)
              have k4 : IntKind.i64.wrap (A.wi + s.wi) = A.wi + s.wi := IntWalk.i64_in _ (by omega)
              have k5 : IntKind.i64.wrap (M - s.lo) = M - s.lo := IntWalk.i64_in _ (by omega)
              have k6 : IntKind.i64.wrap (s.hi - M) = s.hi - M := IntWalk.i64_in _ (by omega)
              clear hst hC hv hT hm1
              go_wp2_with (go_at_call 55; refine HCn.out.mono ?_; rintro e w1 ⟨rfl, hw1⟩; rw [hw1])
              refine region_bw (by kernel_rfl) (by kernel_rfl) ?_
              repeat (go_big_quiet_step ((first | (go_at_call 54; exact bq (HMs.out _) (fun d => lay_join _ _ _ d)))))
              refine wpQuiet_nil ?_
              rintro w' ⟨dq1, rfl⟩
              rw [lay_bw]
              go_wp2_with fail
              refine region_bw (by kernel_rfl) (by kernel_rfl) ?_
              repeat (go_big_quiet_step ((first | (go_at_call 54; exact bq (HMs.out _) (fun d => lay_join _ _ _ d)))))
              refine wpQuiet_nil ?_
              rintro w' ⟨dq2, rfl⟩
              rw [lay_bw]
              go_wp2_with fail
              go_roundw
              case rel =>
                obtain ⟨dN, eN⟩ := lay_fold w [.inr dq2, .inr dq1, .inl (.cells #[.string s.body, .int .i64 s.limb, .int .i64 s.lo, .int .i64 s.hi, .int .i64 s.hs, .int .i64 s.wi, .int .i64 s.hz, .int .i64 s.ey, .int .i64 s.sh, .int .i64 s.te, .int .i64 s.pr] 57 (0, 0)), .inr dj] [.inr dE, .inl (.cells #[.string ⟨#[]⟩, .int .i64 0, .int .i64 0, .int .i64 0, .int .i64 0, .int .i64 0, .int .i64 0, .int .i64 0, .int .i64 0, .int .i64 0, .int .i64 0] 57 (0, 0)), .inl (.cells #[.int .i64 n, .int .i64 d] 26 (0, 0))]
                exact ⟨j + 1, dN, by omega, by go_num, by rw [HST.out], by rw [HST.out], by rw [HST.out], by rw [HST.out], by rw [HST.out], by rw [HST.out], eN⟩
              case measure => simp [intOf]; omega
            · rw [hC] at HCn hst
              rw [if_pos rfl] at hst
              have HST := Lib.hid (hst.trans hA.symm)
              clear hst hC hv hT hm1
              go_wp2_with (go_at_call 55; refine HCn.out.mono ?_; rintro e w1 ⟨rfl, hw1⟩; rw [hw1])
              go_roundw
              case rel =>
                obtain ⟨dN, eN⟩ := lay_fold w [.inl (.cells #[.string s.body, .int .i64 s.limb, .int .i64 s.lo, .int .i64 s.hi, .int .i64 s.hs, .int .i64 s.wi, .int .i64 s.hz, .int .i64 s.ey, .int .i64 s.sh, .int .i64 s.te, .int .i64 s.pr] 57 (0, 0)), .inr dj] [.inr dE, .inl (.cells #[.string ⟨#[]⟩, .int .i64 0, .int .i64 0, .int .i64 0, .int .i64 0, .int .i64 0, .int .i64 0, .int .i64 0, .int .i64 0, .int .i64 0, .int .i64 0] 57 (0, 0)), .inl (.cells #[.int .i64 n, .int .i64 d] 26 (0, 0))]
                exact ⟨j + 1, dN, by omega, by go_num, by rw [HST.out, hA], by rw [HST.out, hA], by rw [HST.out, hA], by rw [HST.out, hA], by rw [HST.out, hA], by rw [HST.out, hA], eN⟩
              case measure => simp [intOf]; omega
          · obtain rfl : j = k := by omega
            have x9 : ¬ (j : Int) < (j : Int) := by omega
            have hA1 : 1 ≤ (ACC j).n := by
              have h := acc_one HO.out
              rw [HOUT.out, HM.out, HACC.out] at h
              exact h
            have hE : sgtE l n d f = if sgB (menS l n d (ACC j)) = true then 0 else 24 := by
              unfold sgtE
              rw [if_neg (fun h => h HE0.out), HOUT.out, HM.out, HACC.out]
            have hS : sgtS l n d f = if sgtE l n d f = 0 then menS l n d (ACC j) else default := by
              unfold sgtS
              rw [HOUT.out, HM.out, HACC.out]
            have hL : sgtL l n d f = if sgtE l n d f = 0 then OUT else [] := by
              unfold sgtL
              rw [HOUT.out]
            have hAB := HAb.out j (Nat.le_refl _)
            have hMB := men_bd hAB o2 hA1 HO.out.fr
            have hv0 := HO.out.get (i := 0) (by rw [HM.out]; omega)
            have hm2 := hv0.t.mid
            rw [← fstS_get] at hm2 hv0
            have HM0 := Lib.hid (fun W => av_middle (fstS l) W hv0.t)
            obtain ⟨s1, s2, d1, d2⟩ := HO.out.fr
            generalize ACC j = A at *
            have hok : SgOk (menS l n d A) := by
              have h1 := hMB.wh0; have h2 := hMB.fq; have h3 := hMB.wi; have h4 := hMB.at0
              have h5 := hAB.b0; have h6 := hAB.b1; have h7 := hAB.a0; have h8 := hAB.a1
              refine ⟨HW0.out.body, ?_, ?_, ?_, ?_⟩ <;> (unfold i64B menS; dsimp only; omega)
            have HV := Lib.hid (fun W => cor_Valid (menS l n d A) W hok)
            have HF1 := Lib.hid (fun W => av_floor A.ti A.n W hA1 (by have := hAB.t0; omega) (by have := hAB.t1; omega))
            have HF2 := Lib.hid (fun W => av_floor A.re A.n W hA1 (by have := hAB.r0; omega) (by have := hAB.r1; omega))
            have HF3 := Lib.hid (fun W => av_floor (rsS A n d) (2000 * d * A.n) W hMB.dd.1 (by have h1 := hMB.p1; have h2 := hMB.p2; have h3 := hMB.p3; unfold rsS; omega) (by have h1 := hMB.p1; have h2 := hMB.p2; have h3 := hMB.p3; unfold rsS; omega))
            have HF4 := Lib.hid (fun W => av_floor (-2 * A.wi - A.n) (2 * A.n) W (by omega) (by have h1 := hAB.w1; have h2 := hAB.n1; omega) (by have h1 := hAB.w0; omega))
            obtain ⟨N, TI, RE, WI, BE, AF⟩ := A
            obtain ⟨h1, h2, h3, h4, h5, h6, h7, h8, h9, h10, h11, h12⟩ := hMB
            obtain ⟨n0, n1, t0, t1, r0, r1, w0, w1, b0, b1, a0, a1⟩ := hAB
            dsimp only at *
            obtain ⟨R, hR⟩ : ∃ z, rsS ⟨N, TI, RE, WI, BE, AF⟩ n d = z := ⟨_, rfl⟩
            have hRe : 2000 * d * (RE - whS ⟨N, TI, RE, WI, BE, AF⟩ * N) + 2 * n * (atS ⟨N, TI, RE, WI, BE, AF⟩ * N - TI) + 1000 * d * N = R := hR
            rw [hR] at HF3 h11
            have hmen : menS l n d ⟨N, TI, RE, WI, BE, AF⟩ = ⟨(fstS l).body, (fstS l).limb, midI (fstS l) + atS ⟨N, TI, RE, WI, BE, AF⟩ - BE, midI (fstS l) + atS ⟨N, TI, RE, WI, BE, AF⟩ + AF, whS ⟨N, TI, RE, WI, BE, AF⟩ + R / (2000 * d * N), -((-2 * WI - N) / (2 * N)), (fstS l).hz, (fstS l).ey, (fstS l).sh, (fstS l).te, (fstS l).pr⟩ := by rw [← hR]; rfl
            have hAT : TI / N = atS ⟨N, TI, RE, WI, BE, AF⟩ := rfl
            have hWH : RE / N = whS ⟨N, TI, RE, WI, BE, AF⟩ := rfl
            rw [hAT] at HF1
            rw [hWH] at HF2
            clear hR hAT hWH
            obtain ⟨MEN, hMEN⟩ : ∃ z, menS l n d ⟨N, TI, RE, WI, BE, AF⟩ = z := ⟨_, rfl⟩
            rw [hMEN] at hE hS HV hmen hok
            clear hMEN
            generalize atS ⟨N, TI, RE, WI, BE, AF⟩ = AT at *
            generalize whS ⟨N, TI, RE, WI, BE, AF⟩ = WH at *
            obtain ⟨FQ, hFQ⟩ : ∃ z, R / (2000 * d * N) = z := ⟨_, rfl⟩
            obtain ⟨Z4, hZ4⟩ : ∃ z, (-2 * WI - N) / (2 * N) = z := ⟨_, rfl⟩
            rw [hFQ] at h11 hmen HF3
            rw [hZ4] at h12 hmen HF4
            clear hFQ hZ4
            obtain ⟨Q1, hQ1⟩ : ∃ z, WH * N = z := ⟨_, rfl⟩
            obtain ⟨Q2, hQ2⟩ : ∃ z, AT * N = z := ⟨_, rfl⟩
            rw [hQ1] at h3 h5 h7 hRe
            rw [hQ2] at h4 h6 h8 hRe
            have k2 : IntKind.i64.wrap (WH * N) = Q1 := by rw [hQ1]; exact IntWalk.i64_in _ (by omega)
            have k6 : IntKind.i64.wrap (AT * N) = Q2 := by rw [hQ2]; exact IntWalk.i64_in _ (by omega)
            clear hQ1 hQ2
            obtain ⟨U, hU⟩ : ∃ z, RE - Q1 = z := ⟨_, rfl⟩
            obtain ⟨V, hV⟩ : ∃ z, Q2 - TI = z := ⟨_, rfl⟩
            rw [hU] at h5 h7 hRe
            rw [hV] at h6 h8 hRe
            have k3 : IntKind.i64.wrap (RE - Q1) = U := by rw [hU]; exact IntWalk.i64_in _ (by omega)
            have k7 : IntKind.i64.wrap (Q2 - TI) = V := by rw [hV]; exact IntWalk.i64_in _ (by omega)
            clear hU hV
            obtain ⟨P1, hP1⟩ : ∃ z, 2000 * d * U = z := ⟨_, rfl⟩
            obtain ⟨P2, hP2⟩ : ∃ z, 2 * n * V = z := ⟨_, rfl⟩
            obtain ⟨P3, hP3⟩ : ∃ z, 1000 * d * N = z := ⟨_, rfl⟩
            obtain ⟨DD, hDD⟩ : ∃ z, 2000 * d * N = z := ⟨_, rfl⟩
            rw [hP1] at h7 hRe
            rw [hP2] at h8 hRe
            rw [hP3] at h9 hRe
            rw [hDD] at h10 HF3
            have k1 : IntKind.i64.wrap (2000 * d) = 2000 * d := IntWalk.i64_in _ (by omega)
            have k5 : IntKind.i64.wrap (2 * n) = 2 * n := IntWalk.i64_in _ (by omega)
            have k10 : IntKind.i64.wrap (1000 * d) = 1000 * d := IntWalk.i64_in _ (by omega)
            have k4 : IntKind.i64.wrap (2000 * d * U) = P1 := by rw [hP1]; exact IntWalk.i64_in _ (by omega)
            have k8 : IntKind.i64.wrap (2 * n * V) = P2 := by rw [hP2]; exact IntWalk.i64_in _ (by omega)
            have k11 : IntKind.i64.wrap (1000 * d * N) = P3 := by rw [hP3]; exact IntWalk.i64_in _ (by omega)
            have k13 : IntKind.i64.wrap (2000 * d * N) = DD := by rw [hDD]; exact IntWalk.i64_in _ (by omega)
            clear hP1 hP2 hP3 hDD
            have k9 : IntKind.i64.wrap (P1 + P2) = P1 + P2 := IntWalk.i64_in _ (by omega)
            have k12 : IntKind.i64.wrap (P1 + P2 + P3) = R := by rw [hRe]; exact IntWalk.i64_in _ (by omega)
            obtain ⟨HS, hHS⟩ : ∃ z, WH + FQ = z := ⟨_, rfl⟩
            obtain ⟨z2, hz2⟩ : ∃ z, -2 * WI - N = z := ⟨_, rfl⟩
            rw [hz2] at HF4
            have k14 : IntKind.i64.wrap (WH + FQ) = HS := by rw [hHS]; exact IntWalk.i64_in _ (by omega)
            have k15 : IntKind.i64.wrap (-2 * WI) = -2 * WI := IntWalk.i64_in _ (by omega)
            have k16 : IntKind.i64.wrap (-2 * WI - N) = z2 := by rw [hz2]; exact IntWalk.i64_in _ (by omega)
            have k17 : IntKind.i64.wrap (2 * N) = 2 * N := IntWalk.i64_in _ (by omega)
            have k18 : IntKind.i64.wrap (-Z4) = -Z4 := IntWalk.i64_in _ (by omega)
            obtain ⟨M0, hM0⟩ : ∃ z, midI (fstS l) = z := ⟨_, rfl⟩
            rw [hM0] at hmen HM0 hm2
            obtain ⟨M1, hM1⟩ : ∃ z, M0 + AT = z := ⟨_, rfl⟩
            have k19 : IntKind.i64.wrap (M0 + AT) = M1 := by rw [hM1]; exact IntWalk.i64_in _ (by omega)
            rw [hM1] at hmen
            rw [hHS] at hmen
            have k20 : IntKind.i64.wrap (M1 - BE) = M1 - BE := IntWalk.i64_in _ (by omega)
            have k21 : IntKind.i64.wrap (M1 + AF) = M1 + AF := IntWalk.i64_in _ (by omega)
            obtain ⟨q0, q1, q2, q3, q4, q5, q6, q7, q8, q9, q10⟩ := HF.out
            rw [sg_val] at HM0 HV
            obtain ⟨rb, hrb⟩ : ∃ z, sgB MEN = z := ⟨_, rfl⟩
            rw [hrb] at HV hE
            clear hrb
            rw [hmen] at HV
            dsimp only at HV
            have HMn := Lib.hid hmen
            have y1 : (0 : Int) < (j : Int) := by omega
            have y2 : 0 < j := by omega
            clear hHS hz2 hM1 hM0 hRe h1 h2 h3 h4 h5 h6 h7 h8 h9 h10 h11 h12 n0 n1 t0 t1 r0 r1 w0 w1 b0 b1 a0 a1 s1 s2 d1 d2 hv0 hm2 hmen hok hA1
            generalize fstS l = s0 at *
            have HEd := Lib.hid hE
            have HSd := Lib.hid hS
            have HLd := Lib.hid hL
            clear hE hS hL
            cases rb
            · go_wp2_with (first | (go_at_call 56; first | (with_reducible refine (HF1.out _).mono ?_; rintro e w1 ⟨rfl, hw1⟩; rw [hw1]) | (with_reducible refine (HF2.out _).mono ?_; rintro e w1 ⟨rfl, hw1⟩; rw [hw1]) | (with_reducible refine (HF3.out _).mono ?_; rintro e w1 ⟨rfl, hw1⟩; rw [hw1]) | (with_reducible refine (HF4.out _).mono ?_; rintro e w1 ⟨rfl, hw1⟩; rw [hw1])))
              refine region_bw_tail 18 (by kernel_rfl) (by kernel_rfl) ?_
              simp only [List.take_succ_cons, List.take_zero, List.drop_succ_cons, List.drop_zero]
              repeat (go_big_quiet_step ((first | (go_at_call 54; exact bq (HM0.out _) (fun d => lay_join _ _ _ d)))))
              refine wpQuiet_nil ?_
              rintro w' ⟨dT, rfl⟩
              rw [lay_bw]
              go_wp2_with (go_at_call 25; refine (HV.out _).mono ?_; rintro e w' ⟨rfl, dV, rfl⟩; rw [lay_bw])
              have q0 : sgtE l n d f = 24 := by rw [HEd.out]; rfl
              have q1 : sgtS l n d f = default := by rw [HSd.out, q0]; rfl
              have q2 : sgtL l n d f = [] := by rw [HLd.out, q0]; rfl
              refine bodyPost_ret (v := .tuple #[zsV, .slice none 0 0, .int .i64 24]) (by simp [results, Tryz.results23, go_sem, zsV]) rfl ?_
              rw [q0, q1, q2]
              obtain ⟨dF, hdF⟩ := lay_ex w [.inr dV, .inr dT, .inl (.cells #[.string s0.body, .int .i64 s0.limb, .int .i64 (M1 - BE), .int .i64 (M1 + AF), .int .i64 HS, .int .i64 (-Z4), .int .i64 s0.hz, .int .i64 s0.ey, .int .i64 s0.sh, .int .i64 s0.te, .int .i64 s0.pr] 57 (0, 0)), .inr dj, .inr dE, .inl (.cells #[.string ⟨#[]⟩, .int .i64 0, .int .i64 0, .int .i64 0, .int .i64 0, .int .i64 0, .int .i64 0, .int .i64 0, .int .i64 0, .int .i64 0, .int .i64 0] 57 (0, 0)), .inl (.cells #[.int .i64 n, .int .i64 d] 26 (0, 0))]
              exact ⟨_, dF, rfl, hdF, Ow.nil _ _⟩
            · go_wp2_with (first | (go_at_call 56; first | (with_reducible refine (HF1.out _).mono ?_; rintro e w1 ⟨rfl, hw1⟩; rw [hw1]) | (with_reducible refine (HF2.out _).mono ?_; rintro e w1 ⟨rfl, hw1⟩; rw [hw1]) | (with_reducible refine (HF3.out _).mono ?_; rintro e w1 ⟨rfl, hw1⟩; rw [hw1]) | (with_reducible refine (HF4.out _).mono ?_; rintro e w1 ⟨rfl, hw1⟩; rw [hw1])))
              refine region_bw_tail 18 (by kernel_rfl) (by kernel_rfl) ?_
              simp only [List.take_succ_cons, List.take_zero, List.drop_succ_cons, List.drop_zero]
              repeat (go_big_quiet_step ((first | (go_at_call 54; exact bq (HM0.out _) (fun d => lay_join _ _ _ d)))))
              refine wpQuiet_nil ?_
              rintro w' ⟨dT, rfl⟩
              rw [lay_bw]
              go_wp2_with (go_at_call 25; refine (HV.out _).mono ?_; rintro e w' ⟨rfl, dV, rfl⟩; rw [lay_bw])
              have q0 : sgtE l n d f = 0 := by rw [HEd.out]; rfl
              have q1 : sgtS l n d f = MEN := by rw [HSd.out, q0]; rfl
              have q2 : sgtL l n d f = OUT := by rw [HLd.out, q0]; rfl
              refine bodyPost_ret (v := .tuple #[.agg #[.string s0.body, .int .i64 s0.limb, .int .i64 (M1 - BE), .int .i64 (M1 + AF), .int .i64 HS, .int .i64 (-Z4), .int .i64 s0.hz, .int .i64 s0.ey, .int .i64 s0.sh, .int .i64 s0.te, .int .i64 s0.pr], vo, .int .i64 0]) (by simp [results, Tryz.results23, go_sem]) rfl ?_
              rw [q0, q1, q2]
              have hsw := ow_swap (.cells #[.string s0.body, .int .i64 s0.limb, .int .i64 (M1 - BE), .int .i64 (M1 + AF), .int .i64 HS, .int .i64 (-Z4), .int .i64 s0.hz, .int .i64 s0.ey, .int .i64 s0.sh, .int .i64 s0.te, .int .i64 s0.pr] 57 (0, 0)) (lay_lt _ _ _) HOut1.out
              have hon := ow_on (A := [.inr dV, .inr dT, .inl (.cells #[.string s0.body, .int .i64 s0.limb, .int .i64 (M1 - BE), .int .i64 (M1 + AF), .int .i64 HS, .int .i64 (-Z4), .int .i64 s0.hz, .int .i64 s0.ey, .int .i64 s0.sh, .int .i64 s0.te, .int .i64 s0.pr] 57 (0, 0)), .inr dj]) hsw
              obtain ⟨dF, hdF⟩ := lay_ex w [.inr dV, .inr dT, .inl (.cells #[.string s0.body, .int .i64 s0.limb, .int .i64 (M1 - BE), .int .i64 (M1 + AF), .int .i64 HS, .int .i64 (-Z4), .int .i64 s0.hz, .int .i64 s0.ey, .int .i64 s0.sh, .int .i64 s0.te, .int .i64 s0.pr] 57 (0, 0)), .inr dj, .inr dE, .inl (.cells #[.string s0.body, .int .i64 s0.limb, .int .i64 (M1 - BE), .int .i64 (M1 + AF), .int .i64 HS, .int .i64 (-Z4), .int .i64 s0.hz, .int .i64 s0.ey, .int .i64 s0.sh, .int .i64 s0.te, .int .i64 s0.pr] 57 (0, 0)), .inl (.cells #[.int .i64 n, .int .i64 d] 26 (0, 0))]
              refine ⟨vo, dF, by rw [HMn.out]; rfl, hdF, ?_⟩
              rw [← hdF]
              exact hon.le (lay_below (w := w) (A := [.inl (.cells #[.string ⟨#[]⟩, .int .i64 0, .int .i64 0, .int .i64 0, .int .i64 0, .int .i64 0, .int .i64 0, .int .i64 0, .int .i64 0, .int .i64 0, .int .i64 0] 57 (0, 0)), .inl (.cells #[.int .i64 n, .int .i64 d] 26 (0, 0))]) (B := [])).size
  · have hE : sgtE l n d f = gvnE l n d f := if_pos c0
    have hS : sgtS l n d f = default := by unfold sgtS; rw [if_neg (by rw [hE]; exact c0)]
    have hL : sgtL l n d f = [] := by unfold sgtL; rw [if_neg (by rw [hE]; exact c0)]
    rw [hE, hS, hL]
    obtain ⟨a, cap, rfl⟩ := hl.form
    have t1 : (gvnE l n d f == 0) = false := beq_eq_false_iff_ne.2 c0
    have t2 : (gvnE l n d f != 0) = true := by rw [bne, t1]; rfl
    clear hl hE hS hL c0
    generalize gvnE l n d f = E at *
    refine lay_start ?_
    go_enter Tryz.func23, Tryz.ntmps23
    go_wp2_with (go_at_call 53; refine (HG.out _ (HL.out.lay _)).mono ?_; rintro e w' ⟨rfl, dA, rfl⟩)
    refine bodyPost_ret (v := .tuple #[zsV, .slice none 0 0, .int .i64 E]) (by simp [results, Tryz.results23, go_sem, zsV]) rfl ?_
    obtain ⟨dF, hdF⟩ := lay_ex w [.inr dA, .inl (.cells #[.string ⟨#[]⟩, .int .i64 0, .int .i64 0, .int .i64 0, .int .i64 0, .int .i64 0, .int .i64 0, .int .i64 0, .int .i64 0, .int .i64 0, .int .i64 0] 57 (0, 0)), .inl (.cells #[.int .i64 n, .int .i64 d] 26 (0, 0))]
    exact ⟨_, dF, rfl, hdF, Ow.nil _ _⟩
end Go.Proofs.YtmomoeagnkjbiaaGreat
